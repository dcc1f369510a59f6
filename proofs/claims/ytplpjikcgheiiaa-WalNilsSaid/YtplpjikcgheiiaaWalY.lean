/- Records, and steps with records, that come in. -/
import Derived.Test.YtplpjikcgheiiaaU6
import Derived.Deep.Slices
import Derived.SizedLaws
import Derived.ChangeArms
namespace Go.Proofs.Ytplpjikcgheiiaa.Rec
open Go Go.Proofs.Ytplpjikcgheiiaa Go.Proofs.Ytplpjikcgheiiaa.Enc Xf Go.RowKit Go.ChangeShapes Go.WideShapes Go.Deep
set_option linter.unusedVariables false
set_option linter.unusedSimpArgs false
set_option maxRecDepth 100000

theorem txV_of (row : List Value) (h : RowOk [.int .i64, .int .i64, .int .u64] row) : ∃ o, row = txV o ∧ True := by
  obtain ⟨hl, hk⟩ := h
  obtain ⟨_, e0, n0, rfl, w0⟩ := hk 0 _ rfl
  obtain ⟨_, e1, n1, rfl, w1⟩ := hk 1 _ rfl
  obtain ⟨_, e2, n2, rfl, w2⟩ := hk 2 _ rfl
  simp only [Lit.wf, Bool.and_eq_true, decide_eq_true_eq] at w2
  have m1 : IntKind.min .u64 = 0 := by decide
  rw [m1] at w2
  refine ⟨⟨n0, n1, n2.toNat⟩, ?_, trivial⟩
  match row, hl with
  | [a, b, c], _ =>
    simp at e0 e1 e2; subst e0 e1 e2
    unfold txV
    rw [show ((n2.toNat : Nat) : Int) = n2 by omega]
theorem diV_of (row : List Value) (h : RowOk [.int .i64, .int .u64] row) : ∃ o, row = diV o ∧ True := by
  obtain ⟨hl, hk⟩ := h
  obtain ⟨_, e0, n0, rfl, w0⟩ := hk 0 _ rfl
  obtain ⟨_, e2, n2, rfl, w2⟩ := hk 1 _ rfl
  simp only [Lit.wf, Bool.and_eq_true, decide_eq_true_eq] at w2
  have m1 : IntKind.min .u64 = 0 := by decide
  rw [m1] at w2
  refine ⟨⟨n0, n2.toNat⟩, ?_, trivial⟩
  match row, hl with
  | [a, c], _ =>
    simp at e0 e2; subst e0 e2
    unfold diV
    rw [show ((n2.toNat : Nat) : Int) = n2 by omega]
theorem u64_of {n : Int} (h : (Lit.int .u64 n).wf = true) : ((n.toNat : Nat) : Int) = n := by
  simp only [Lit.wf, Bool.and_eq_true, decide_eq_true_eq] at h
  have m1 : IntKind.min .u64 = 0 := by decide
  rw [m1] at h
  omega
def shortR (r : Re) : Prop := r.key.length ≤ reachBytes ∧ r.old.length ≤ reachBytes ∧ r.new.length ≤ reachBytes
theorem each_cons {H : Type} {P : Program} {t : TypeId} {ts : List TypeId} {d : DataW H} {ds : List (DataW H)} {n : Nat} : (∀ m ∈ DataW.weightsEach P (t :: ts) (d :: ds), m ≤ n) → (∀ m ∈ d.weights P t, m ≤ n) ∧ ∀ m ∈ DataW.weightsEach P ts ds, m ≤ n := by
  intro h
  simp only [DataW.weightsEach, List.mem_append] at h
  exact ⟨fun m hm => h m (.inl hm), fun m hm => h m (.inr hm)⟩
section
variable {H : Type} {enc : TypeId × Value → H} {held : Bool} {w : World}
theorem re_of_cells {fuel : Nat} {l : List Value} {x : DataW H × List MemPlace} (hf : DataW.trod enc Try.prog w 0 (fun _ => true) held fuel 41 l = some x) (hz : ∀ n ∈ x.1.weights Try.prog 41, n ≤ reachBytes) :
    ∃ (x : Re) (vt vd : Value), l = reV x vt vd ∧ RdS w txV 3 vt x.ts ∧ RdS w diV 2 vd x.ds ∧ shortR x := by
  obtain ⟨d, p⟩ := x
  obtain ⟨xs, n, _, hx, hl, hlen, hg⟩ := Go.DataW.trod_struct Try.underlying41 hf
  rw [show Try.prog.cellsOf 41 = 12 by kernel_rfl] at hl
  match xs, hlen with
  | [x0, x1, x2, x3, x4, x5, x6, x7, x8], _ =>
  match l, hl with
  | [a0, a1, a2, a3, a4, a5, a6, a7, a8, a9, a10, a11], _ =>
  have c1 : ∀ {t : TypeId}, t = 33 ∨ t = 34 ∨ t = 3 ∨ t = 38 ∨ t = 39 ∨ t = 35 ∨ t = 9 → Try.prog.cellsOf t = 1 := by
    rintro t (rfl | rfl | rfl | rfl | rfl | rfl | rfl) <;> kernel_rfl
  have k0 : DataW.trod enc Try.prog w 0 (fun _ => true) held n 33 [a0] = some x0 := by simpa [c1] using hg 0 _ rfl
  have k1 : DataW.trod enc Try.prog w 0 (fun _ => true) held n 34 [a1] = some x1 := by simpa [c1] using hg 1 _ rfl
  have k2 : DataW.trod enc Try.prog w 0 (fun _ => true) held n 3 [a2] = some x2 := by simpa [c1] using hg 2 _ rfl
  have k3 : DataW.trod enc Try.prog w 0 (fun _ => true) held n 34 [a3] = some x3 := by simpa [c1] using hg 3 _ rfl
  have k4 : DataW.trod enc Try.prog w 0 (fun _ => true) held n 34 [a4] = some x4 := by simpa [c1] using hg 4 _ rfl
  have k5 : DataW.trod enc Try.prog w 0 (fun _ => true) held n 3 [a5] = some x5 := by simpa [c1] using hg 5 _ rfl
  have k6 : DataW.trod enc Try.prog w 0 (fun _ => true) held n 37 [a6, a7, a8, a9] = some x6 := by simpa [show Try.prog.cellsOf 37 = 4 by kernel_rfl] using hg 6 _ rfl
  have k7 : DataW.trod enc Try.prog w 0 (fun _ => true) held n 38 [a10] = some x7 := by simpa [c1] using hg 7 _ rfl
  have k8 : DataW.trod enc Try.prog w 0 (fun _ => true) held n 39 [a11] = some x8 := by simpa [c1] using hg 8 _ rfl
  obtain ⟨n0, e0, _, w0⟩ := Go.DataW.trod_int Try.underlying33 k0
  obtain ⟨n1, e1, _, w1⟩ := Go.DataW.trod_int Try.underlying34 k1
  obtain ⟨n2, e2, _, w2⟩ := Go.DataW.trod_int Try.underlying3 k2
  obtain ⟨n3, e3, _, w3⟩ := Go.DataW.trod_int Try.underlying34 k3
  obtain ⟨n4, e4, _, w4⟩ := Go.DataW.trod_int Try.underlying34 k4
  obtain ⟨n5, e5, _, w5⟩ := Go.DataW.trod_int Try.underlying3 k5
  obtain ⟨ts, ht, -⟩ := structs_of_trod (fun _ => rfl) txV_of Try.underlying38 Try.underlying136 (by kernel_rfl) (by kernel_rfl) (by kernel_rfl) k7
  obtain ⟨ds, hd, -⟩ := structs_of_trod (fun _ => rfl) diV_of Try.underlying39 Try.underlying138 (by kernel_rfl) (by kernel_rfl) (by kernel_rfl) k8
  obtain ⟨ys, n', _, hxa, _, hylen, hy⟩ := Go.DataW.trod_struct Try.underlying37 k6
  match ys, hylen with
  | [y0, y1, y2, y3], _ =>
  have j0 : DataW.trod enc Try.prog w 0 (fun _ => true) held n' 35 [a6] = some y0 := by simpa [c1] using hy 0 _ rfl
  have j1 : DataW.trod enc Try.prog w 0 (fun _ => true) held n' 9 [a7] = some y1 := by simpa [c1] using hy 1 _ rfl
  have j2 : DataW.trod enc Try.prog w 0 (fun _ => true) held n' 9 [a8] = some y2 := by simpa [c1] using hy 2 _ rfl
  have j3 : DataW.trod enc Try.prog w 0 (fun _ => true) held n' 9 [a9] = some y3 := by simpa [c1] using hy 3 _ rfl
  obtain ⟨n6, e6, _, w6⟩ := Go.DataW.trod_int Try.underlying35 j0
  obtain ⟨s7, e7, d7, _⟩ := Go.DataW.trod_string Try.underlying9 j1
  obtain ⟨s8, e8, d8, _⟩ := Go.DataW.trod_string Try.underlying9 j2
  obtain ⟨s9, e9, d9, _⟩ := Go.DataW.trod_string Try.underlying9 j3
  obtain ⟨key, rfl⟩ := mk_surj s7
  obtain ⟨old, rfl⟩ := mk_surj s8
  obtain ⟨new, rfl⟩ := mk_surj s9
  simp only [List.cons.injEq, and_true] at e0 e1 e2 e3 e4 e5 e6 e7 e8 e9
  subst e0 e1 e2 e3 e4 e5 e6 e7 e8 e9
  refine ⟨⟨n0, n1.toNat, n2, n3.toNat, n4.toNat, n5, n6, key, old, new, ts, ds⟩, a10, a11, ?_, ht, hd, ?_⟩
  · unfold reV
    simp only [u64_of w1, u64_of w3, u64_of w4]
  · have hd6 : d = .agg [x0.1, x1.1, x2.1, x3.1, x4.1, x5.1, x6.1, x7.1, x8.1] := by
      have := congrArg Prod.fst hx; simpa using this
    have hd6' : x6.1 = .agg [y0.1, y1.1, y2.1, y3.1] := by rw [hxa]; simp
    rw [hd6] at hz
    simp only [DataW.weights, Try.underlying41] at hz
    have z := (each_cons (each_cons (each_cons (each_cons (each_cons (each_cons (each_cons hz).2).2).2).2).2).2).1
    rw [hd6'] at z
    simp only [DataW.weights, Try.underlying37] at z
    have z1 := (each_cons z).2
    have z2 := (each_cons z1).2
    have z3 := (each_cons z2).2
    have q1 := (each_cons z1).1
    have q2 := (each_cons z2).1
    have q3 := (each_cons z3).1
    rw [d7] at q1
    rw [d8] at q2
    rw [d9] at q3
    simp only [DataW.weights] at q1 q2 q3
    exact ⟨by simpa using q1 _ (List.mem_singleton.2 rfl), by simpa using q2 _ (List.mem_singleton.2 rfl), by simpa using q3 _ (List.mem_singleton.2 rfl)⟩
theorem re_of_trod {r : Reach} {b0 : Nat} {v : Value} {d : DataW H} {p : List MemPlace} (hv : Value.okWide Try.prog w r b0 41 v) (h : DataW.Trod enc Try.prog w 0 (fun _ => true) held 41 v d p) (hz : ∀ n ∈ d.weights Try.prog 41, n ≤ reachBytes) :
    ∃ x : Re, v = v ∧ RdRe w v x ∧ shortR x := by
  obtain ⟨cs, rfl, hsz⟩ := okWide_struct Try.underlying41 hv
  obtain ⟨l⟩ := cs
  obtain ⟨fuel, hf⟩ := h
  have hcl : (Value.agg l.toArray).cells.toList = l := rfl
  rw [hcl] at hf
  obtain ⟨x, vt, vd, rfl, h1, h2, h3⟩ := re_of_cells hf hz
  exact ⟨x, rfl, ⟨vt, vd, rfl, h1, h2⟩, h3⟩
end
/-- a step of the laws of logs -/
structure WOp where
  kind : Int
  n : Int
  at_ : Nat
  r : Re
def woV (o : WOp) (vt vd : Value) : List Value := [.int .i64 o.kind, .int .i64 o.n, .int .u64 (o.at_ : Nat)] ++ reV o.r vt vd
/-- a slice of steps, as it reads in w -/
def RdOps (w : World) (v : Value) (L : List WOp) : Prop :=
  ∃ A c, v = .slice A L.length c ∧ L.length ≤ maxLen ∧ ∀ i (hi : i < L.length), in64 L[i].n ∧ shortR L[i].r ∧ ∃ a vt vd, A = some a ∧ (∀ j u, (woV L[i] vt vd)[j]? = some u → w.cell? ((a.add (i * 15)).add j) = some u) ∧ RdS w txV 3 vt L[i].r.ts ∧ RdS w diV 2 vd L[i].r.ds
theorem weightsAll_mem {H : Type} {P : Program} {e : TypeId} : ∀ {l : List (DataW H)} {d : DataW H}, d ∈ l → ∀ n ∈ d.weights P e, n ∈ DataW.weightsAll P e l
  | x :: l, d, h, n, hn => by
    simp only [DataW.weightsAll, List.mem_append]
    rcases List.mem_cons.1 h with rfl | h
    · exact Or.inl hn
    · exact Or.inr (weightsAll_mem h n hn)
section
variable {H : Type} {enc : TypeId × Value → H} {held : Bool} {w : World}
theorem ops_of_trod {r : Reach} {b0 : Nat} {v : Value} {d : DataW H} {p : List MemPlace} (hv : Value.okWide Try.prog w r b0 22 v) (h : DataW.Trod enc Try.prog w 0 (fun _ => true) held 22 v d p) (hz : ∀ n ∈ d.weights Try.prog 22, n ≤ reachBytes) :
    ∃ x : List WOp, v = v ∧ RdOps w v x := by
  obtain ⟨A, len, cap, rfl⟩ := okWide_slice Try.underlying22 hv
  obtain ⟨fuel, hf⟩ := h
  rcases Go.Deep.open_slice Try.underlying22 hf with ⟨hcs, _⟩ | ⟨a, len', cap', m, n, D, Pl, hcs, hb, hl, hm, hmm, hx, hi⟩
  · simp [Value.cells] at hcs
    obtain ⟨rfl, rfl, rfl⟩ := hcs
    exact ⟨[], rfl, none, 0, rfl, Nat.zero_le _, fun i hi => by simp at hi⟩
  · simp [Value.cells] at hcs
    obtain ⟨rfl, rfl, rfl⟩ := hcs
    simp at hmm
    have key : ∀ i, i < len → ∃ o : WOp, in64 o.n ∧ shortR o.r ∧ ∃ vt vd, (∀ j u, (woV o vt vd)[j]? = some u → w.cell? ((a.add (i * 15)).add j) = some u) ∧ RdS w txV 3 vt o.r.ts ∧ RdS w diV 2 vd o.r.ds := by
      intro i hil
      obtain ⟨cs', hc, ht'⟩ := hi i (by omega)
      rw [show Try.prog.cellsOf 43 = 15 by kernel_rfl] at hc
      obtain ⟨_, hcl, hat⟩ := World.cells?_some hc
      have hDi : ∀ n ∈ (D i).weights Try.prog 43, n ≤ reachBytes := fun n hn => by
        have hd := congrArg Prod.fst hx
        simp only at hd
        rw [hd] at hz
        refine hz n ?_
        simp only [DataW.weights, Try.underlying22]
        refine List.mem_cons_of_mem _ (List.mem_append_left _ ?_)
        exact weightsAll_mem (List.mem_map.2 ⟨i, List.mem_range.2 hil, rfl⟩) n hn
      obtain ⟨xs, n', _, hx', _, hxl, hg⟩ := Go.DataW.trod_struct Try.underlying43 ht'
      match xs, hxl with
      | [x0, x1, x2, x3], _ =>
      match cs', hcl with
      | [a0, a1, a2, a3, a4, a5, a6, a7, a8, a9, a10, a11, a12, a13, a14], _ =>
      have c1 : ∀ {t : TypeId}, t = 3 ∨ t = 32 → Try.prog.cellsOf t = 1 := by
        rintro t (rfl | rfl) <;> kernel_rfl
      have k0 : DataW.trod enc Try.prog w 0 (fun _ => true) held n' 3 [a0] = some x0 := by simpa [c1] using hg 0 _ rfl
      have k1 : DataW.trod enc Try.prog w 0 (fun _ => true) held n' 3 [a1] = some x1 := by simpa [c1] using hg 1 _ rfl
      have k2 : DataW.trod enc Try.prog w 0 (fun _ => true) held n' 32 [a2] = some x2 := by simpa [c1] using hg 2 _ rfl
      have k3 : DataW.trod enc Try.prog w 0 (fun _ => true) held n' 41 [a3, a4, a5, a6, a7, a8, a9, a10, a11, a12, a13, a14] = some x3 := by simpa [c1, show Try.prog.cellsOf 41 = 12 by kernel_rfl] using hg 3 _ rfl
      obtain ⟨n0, e0, _, w0⟩ := Go.DataW.trod_int Try.underlying3 k0
      obtain ⟨n1, e1, _, w1⟩ := Go.DataW.trod_int Try.underlying3 k1
      obtain ⟨n2, e2, _, w2⟩ := Go.DataW.trod_int Try.underlying32 k2
      have hd6 : D i = .agg [x0.1, x1.1, x2.1, x3.1] := by have := congrArg Prod.fst hx'; simpa using this
      rw [hd6] at hDi
      simp only [DataW.weights, Try.underlying43] at hDi
      have z := (each_cons (each_cons (each_cons (each_cons hDi).2).2).2).1
      obtain ⟨r, vt, vd, e3, h1, h2, h3⟩ := re_of_cells k3 z
      simp only [List.cons.injEq, and_true] at e0 e1 e2
      subst e0 e1 e2
      refine ⟨⟨n0, n1, n2.toNat, r⟩, in64_wf w1, h3, vt, vd, fun j u hu => ?_, h1, h2⟩
      have hj : j < 15 := (List.getElem?_eq_some_iff.1 hu).1
      rw [hat j hj, ← hu]
      unfold woV
      simp only [u64_of w2]
      rw [← e3]
      rfl
    have hL : ∀ n, n ≤ len → ∃ L : List WOp, L.length = n ∧ ∀ i (hi : i < L.length), in64 L[i].n ∧ shortR L[i].r ∧ ∃ vt vd, (∀ j u, (woV L[i] vt vd)[j]? = some u → w.cell? ((a.add (i * 15)).add j) = some u) ∧ RdS w txV 3 vt L[i].r.ts ∧ RdS w diV 2 vd L[i].r.ds := by
      intro n
      induction n with
      | zero => exact fun _ => ⟨[], rfl, fun i hi => by simp at hi⟩
      | succ n ih =>
        intro hn
        obtain ⟨L, hl, h⟩ := ih (by omega)
        obtain ⟨o, ho⟩ := key n (by omega)
        refine ⟨L ++ [o], by simp [hl], fun i hi => ?_⟩
        by_cases hin : i < L.length
        · simpa [List.getElem_append_left hin] using h i hin
        · have : i = L.length := by simp at hi; omega
          subst this
          simpa [hl] using ho
    obtain ⟨L, rfl, h⟩ := hL len (Nat.le_refl _)
    refine ⟨L, rfl, some a, cap, rfl, by omega, fun i hi => ?_⟩
    obtain ⟨q1, q2, vt, vd, q3⟩ := h i hi
    exact ⟨q1, q2, a, vt, vd, rfl, q3⟩
end
end Go.Proofs.Ytplpjikcgheiiaa.Rec

/- append of a string onto a row of bytes. -/
import Derived.Test.YtconmaojfkmlnaaRf
import Derived.Laws.Append
import Derived.Laws.AppendOwn
namespace Go.Proofs.Ytconmaojfkmlnaa
open Go Xf Go.RowKit
set_option linter.unusedVariables false
set_option linter.unusedSimpArgs false

section
variable {P : Program} {w W : World} {K : Value → World → Prop}

theorem bytes_cells (l : List UInt8) : ((⟨l.toArray⟩ : ByteArray).extract 0 l.length).data.map (fun b => Value.int .u8 b.toNat) = (bytesV l).toArray := by
  rw [ByteArray.data_extract]
  apply Array.ext'
  simp [bytesV]

theorem run_append_str (w : World) (t s8 ty e : TypeId) (i : TypeInfo) (z : Value) (bytes : Nat) (ht : P.underlying t = some (.slice e)) (hs8 : P.underlying s8 = some .string) (hi : P.info? e = some i) (hz : i.zero = some z)
    (hsize : i.size = 1) (hby : i.bytes = bytes) (hzs : z.cells.size = 1)
    (v : Value) (n : Nat) (xs : List Value) (hown : w.ownsRow 0 e 1 v n xs) (l : List UInt8) (h63 : n + l.length ≤ maxLen) (hbytes : (n + l.length) * bytes ≤ 140737488355328) :
    ∃ v' w', (Builtin.append_ #[t, s8] ty #[v, .string ⟨l.toArray⟩]).run P w = .ok v' w' ∧ w'.ownsRow 0 e 1 v' (n + l.length) (xs ++ bytesV l) ∧ w.grownBy w' v.ownBlock ∧ (v'.ownBlock = v.ownBlock ∨ v'.ownBlock = some w.heap.size) := by
  subst hby
  have hsmall : n + l.length ≤ 9223372036854775807 := by simp only [maxLen] at h63; omega
  have hlb : (bytesV l).length = l.length := bytesV_len l
  have hlen : (xs ++ bytesV l).length = (n + l.length) * 1 := by rw [List.length_append, hown.1, hlb]; omega
  have hss : (⟨l.toArray⟩ : ByteArray).size = l.length := size_mk l
  have grown : ∀ (old : Nat), old < n + l.length → ∀ (row : Option Nat),
      (w.drew.alloc (.cells (xs.toArray ++ (bytesV l).toArray ++ Builtin.zeroCells z.cells (grownCap w (n + l.length) old e - (n + l.length))) e)).ownsRow 0 e 1
        (.slice (some ⟨w.heap.size, 0, none⟩) (n + l.length) (grownCap w (n + l.length) old e)) (n + l.length) (xs ++ bytesV l) ∧
      w.grownBy (w.drew.alloc (.cells (xs.toArray ++ (bytesV l).toArray ++ Builtin.zeroCells z.cells (grownCap w (n + l.length) old e - (n + l.length))) e)) row := by
    intro old ho row
    have hge := grownCap_ge w (n + l.length) old e
    have hcm : grownCap w (n + l.length) old e ≤ maxLen := grownCap_le_maxLen w (n + l.length) old e h63
    refine ⟨⟨hlen, .inr ⟨w.heap.size, _, _, rfl, Nat.zero_le _, heap_alloc_new w.drew _, hge, hcm, ?_, ?_⟩⟩, ⟨rfl, rfl, rfl, by simp, fun k hk _ => heap_alloc_old w.drew _ hk⟩⟩
    · have h1 := hown.1
      simp only [Array.size_append, List.size_toArray, size_zeroCells, hzs, h1, hlb]
      omega
    · simp only [Array.toList_append, List.append_assoc]
      rw [← List.append_assoc, ← hlen]
      exact List.take_left
  rcases hown.2 with ⟨rfl, rfl⟩ | ⟨g, cap, cur, rfl, hbg, hg, hnc, hcm, hcs, htake⟩
  · have hx : xs = [] := List.eq_nil_of_length_eq_zero (by simpa using hown.1)
    subst hx
    by_cases hm : l.length = 0
    · have hn : l = [] := List.eq_nil_of_length_eq_zero hm
      subst hn
      refine ⟨.slice none 0 0, w, ?_, World.ownsRow_nil w 0 e 1, ⟨rfl, rfl, rfl, Nat.le_refl _, fun _ _ _ => rfl⟩, Or.inl rfl⟩
      simp [Builtin.append_, run_underlying ht, run_underlying hs8, sizeOf, typeInfo, hi, Builtin.lenOf, Builtin.firstCells, ByteArray.size]
    · have hr := run_append_nil_string (P := P) w t s8 ty e i z ht hs8 hi hz ⟨l.toArray⟩ (by omega) (by omega) (by rw [hss]; have hb := hbytes; simp only [Nat.zero_add] at hb; omega)
      have hgr := grown 0 (by omega) (Value.ownBlock (.slice none 0 0))
      rw [hss] at hr
      have hd : Array.map (fun b : UInt8 => Value.int IntKind.u8 (b.toNat : Int)) (⟨l.toArray⟩ : ByteArray).data = (bytesV l).toArray := by apply Array.ext'; simp [bytesV]
      rw [hd] at hr
      simp only [Nat.zero_add, List.nil_append, Array.empty_append] at hgr ⊢
      exact ⟨_, _, hr, hgr.1, hgr.2, Or.inr rfl⟩
  · have hf : (Builtin.firstCells 1 l.length (.string ⟨l.toArray⟩)).run P w = .ok (bytesV l).toArray w := by
      show (pure _ : Sem (Array Value)).run P w = _
      rw [bytes_cells]; rfl
    have hfd : (Builtin.firstCells 1 l.length (.string ⟨l.toArray⟩)).run P w.drew = .ok (bytesV l).toArray w.drew := by
      show (pure _ : Sem (Array Value)).run P w.drew = _
      rw [bytes_cells]; rfl
    by_cases hroom : n + l.length ≤ cap
    · have hfit : n + (bytesV l).length ≤ cur.size := by rw [hlb, hcs]; omega
      have hst := run_storeCells_at P g n e (bytesV l) 0 cur w hg (by simpa using hfit) (bytesV_one l)
      simp only [Nat.add_zero] at hst
      have hr : (Builtin.append_ #[t, s8] ty #[.slice (some ⟨g, 0, none⟩) n cap, .string ⟨l.toArray⟩]).run P w =
          .ok (.slice (some ⟨g, 0, none⟩) (n + l.length) cap) (w.setRow g (cur.toList.take n ++ bytesV l ++ cur.toList.drop (n + (bytesV l).length)).toArray) := by
        simp [Builtin.append_, run_underlying ht, run_underlying hs8, sizeOf, typeInfo, hi, hsize, Builtin.lenOf, hss, hroom, hf, Addr.add_lit, hst]
      refine ⟨_, _, hr, ⟨hlen, .inr ⟨g, cap, _, rfl, hbg, setRow_heap w g cur _ e _ hg, hroom, hcm, ?_, ?_⟩⟩, ⟨rfl, rfl, rfl, by simp, fun k _ hk => setRow_other w g k _ (fun e => hk (by simp [Value.ownBlock, e]))⟩, Or.inl rfl⟩
      · simp only [List.size_toArray, List.length_append, List.length_take, List.length_drop, Array.length_toList]
        omega
      · have ht1 : cur.toList.take n = xs := by rw [← htake, Nat.mul_one]
        rw [ht1, ← hlen]
        exact List.take_left
    · have holds : ∀ j u, xs[j]? = some u → w.cell? ((⟨g, 0, none⟩ : Addr).add j) = some u := hown.cells (g := g) rfl
      have hn : ¬ (n + l.length ≤ cap) := by omega
      have h63' : ¬ (9223372036854775807 < ((n : Int) + (l.length : Int))) := by omega
      have h48 := growslice_fits (need := n + l.length) (old := cap) (bytes := i.bytes) (by omega) hbytes
      have h48' : ¬ (281474976710656 < Builtin.nextslicecap (n + l.length) cap * i.bytes) := by omega
      have hfo := run_firstCells_some (P := P) w.drew 1 n ⟨g, 0, none⟩ n cap xs hown.1 (by simpa using holds)
      have hr : (Builtin.append_ #[t, s8] ty #[.slice (some ⟨g, 0, none⟩) n cap, .string ⟨l.toArray⟩]).run P w =
          .ok (.slice (some ⟨w.heap.size, 0, none⟩) (n + l.length) (grownCap w (n + l.length) cap e))
            (w.drew.alloc (.cells (xs.toArray ++ (bytesV l).toArray ++ Builtin.zeroCells z.cells (grownCap w (n + l.length) cap e - (n + l.length))) e)) := by
        simp [Builtin.append_, run_underlying ht, run_underlying hs8, sizeOf, typeInfo, zeroValue, hi, hz, hsize, Builtin.lenOf, hss, hn, h63', h48', Question.forced, hfd, hfo, newRow, grownCap]
        congr 2
        apply Array.ext'
        simp [List.append_assoc]
      have hgr := grown cap (by omega) (Value.ownBlock (.slice (some ⟨g, 0, none⟩) n cap))
      exact ⟨_, _, hr, hgr.1, hgr.2, Or.inr rfl⟩

/-- append onto a row of bytes that is known, of a string -/
theorem st_appendS {t s8 e ty : TypeId} {c : List Bool} {i : TypeInfo} {z : Value} {sz bytes : Nat} (ht : P.underlying t = some (.slice e)) (hi : P.info? e = some i) (hz : i.zero = some z) (hs : i.size = sz) (hb : i.bytes = bytes) (hzs : z.cells.size = sz) (hsz : sz = 1) (hs8 : P.underlying s8 = some .string)
    {v : Value} {n : Nat} {xs : List Value} {l : List UInt8} {h F : List (Nat × Obj)} {ks : List Nat} (hr : RowH e sz v n xs h) (hO : Owns w (h ++ F)) (hU : Upd W w ks) (hh : ∀ p ∈ h, p.1 ∈ ks ∨ W.heap.size ≤ p.1)
    (h63 : n + l.length ≤ maxLen) (hby : (n + l.length) * bytes ≤ 140737488355328)
    (hk : ∀ v' w' h', RowH e sz v' (n + l.length) (xs ++ bytesV l) h' → Owns w' (h' ++ F) → Upd W w' ks → (∀ p ∈ h', p.1 ∈ ks ∨ W.heap.size ≤ p.1) → K v' w') : (std P).step (sBuiltin .append #[t, s8] ty c [v, .string ⟨l.toArray⟩]) w K := by
  have hown := hr.owns hO
  subst hsz
  have key : ∃ v' w', (Builtin.append_ #[t, s8] ty #[v, .string ⟨l.toArray⟩]).run P w = .ok v' w' ∧ w'.ownsRow 0 e 1 v' (n + l.length) (xs ++ bytesV l) ∧ w.grownBy w' v.ownBlock ∧ (v'.ownBlock = v.ownBlock ∨ v'.ownBlock = some w.heap.size) :=
    run_append_str w t s8 ty e i z bytes ht hs8 hi hz hs hb hzs v n xs hown l h63 hby
  obtain ⟨v', w', hrun, h2, h3, h5⟩ := key
  have hstep : (sBuiltin .append #[t, s8] ty c [v, .string ⟨l.toArray⟩]).run P w = .ok (.value v') w' := by
    show (do pure (.value (← Builtin.append_ #[t, s8] ty #[v, .string ⟨l.toArray⟩])) : Sem Next).run P w = _
    rw [Sem.run_bind, hrun]
    rfl
  rw [step_run hstep]
  -- the block of the row
  have hvb : ∀ b, v.ownBlock = some b → ∃ cs, h = [(b, .cells cs e (0, 0))] := fun b hb => by
    rcases hr.2 with ⟨rfl, _⟩ | ⟨g, cap, cs, rfl, rfl, _⟩
    · cases hb
    · cases hb; exact ⟨cs, rfl⟩
  have hupd : Upd w w' (h.map (·.1)) := ⟨h3.os, h3.tape, h3.output, h3.size, fun b hb hn => h3.block b hb fun he => by
    obtain ⟨cs, rfl⟩ := hvb b he.symm
    exact hn (by simp)⟩
  have hU' : Upd W w' ks := hU.then_ hupd fun x hx => by
    obtain ⟨p, hp, rfl⟩ := List.mem_map.1 hx
    exact hh p hp
  have hOF : Owns w' F := by
    have hF : Owns w F := hO.sub (List.sublist_append_right h F)
    refine hF.upd hupd fun p hp hm => ?_
    have hnd := hO.1
    rw [List.map_append] at hnd
    exact (List.nodup_append.1 hnd).2.2 _ hm _ (List.mem_map_of_mem hp) rfl
  rcases h2.2 with ⟨rfl, hnm⟩ | ⟨g, cap, cur, rfl, _, hg, hn, hcm, hcs, htake⟩
  · exact hk _ _ [] ⟨h2.1, .inl ⟨rfl, hnm, rfl⟩⟩ hOF hU' (fun p hp => by cases hp)
  · refine hk _ _ [(g, .cells cur e (0, 0))] ⟨h2.1, .inr ⟨g, cap, cur, rfl, rfl, hn, hcm, hcs, htake⟩⟩ ⟨?_, ?_⟩ hU' ?_
    · simp only [List.singleton_append, List.map_cons]
      refine List.nodup_cons.2 ⟨fun hm => ?_, hOF.1⟩
      rcases h5 with h5 | h5
      · obtain ⟨cs, rfl⟩ := hvb g h5.symm
        have hnd := hO.1
        simp only [List.singleton_append, List.map_cons] at hnd
        exact (List.nodup_cons.1 hnd).1 hm
      · obtain ⟨p, hp, he⟩ := List.mem_map.1 hm
        have := (hO.sub (List.sublist_append_right h F)).lt hp
        have : g = w.heap.size := by cases h5; rfl
        omega
    · intro p hp
      rcases List.mem_append.1 hp with hp | hp
      · simp at hp; subst hp; exact hg
      · exact hOF.2 p hp
    · intro p hp
      simp at hp
      subst hp
      rcases h5 with h5 | h5
      · obtain ⟨cs, rfl⟩ := hvb g h5.symm
        exact (hh (g, .cells cs e (0, 0)) (by simp) : g ∈ ks ∨ W.heap.size ≤ g)
      · have : g = w.heap.size := by cases h5; rfl
        right
        rw [this]
        exact hU.size


end
end Go.Proofs.Ytconmaojfkmlnaa

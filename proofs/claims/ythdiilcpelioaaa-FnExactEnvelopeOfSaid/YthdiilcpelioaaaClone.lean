/- Copies of slices of numbers: blocks of their own. Condition: as many elements as memory takes. -/
import Derived.Test.YthdiilcpelioaaaAskI
import Derived.Test.YthdiilcpelioaaaConv
import Derived.WalkSpells
set_option linter.unusedVariables false
set_option linter.unusedSimpArgs false
namespace Go.Proofs.Ythdiilcpelioaaa
open Go.RowKit
/-- A slice of numbers in a block of its own, from block B on; behind the numbers some spare. -/
def OwnI (B : Nat) (w : World) (v : Value) (l : List Int) : Prop := ∃ g cap T, v = .slice (some ⟨g, 0, none⟩) l.length cap ∧ B ≤ g ∧ Blk w g 3 (ints l ++ T)
theorem Blk.rdInts {w : World} {g : Nat} {e : TypeId} {l : List Int} {T : List Value} (h : Blk w g e (ints l ++ T)) : RdI w (some ⟨g, 0, none⟩) l := by
  rw [← flat_ints] at h
  exact h.rdI
theorem OwnI.on {B : Nat} {w w' : World} {v : Value} {l : List Int} (h : OwnI B w v l) (hb : Below w.heap.size w w') : OwnI B w' v l := by
  obtain ⟨g, cap, T, e, hg, hB⟩ := h
  exact ⟨g, cap, T, e, hg, hB.on hb⟩
theorem ints_len (l : List Int) : (ints l).length = l.length := by simp [ints]
theorem ownI_of {B : Nat} {w : World} {v : Value} {l : List Int} (h : w.ownsRow B 3 1 v l.length (ints l)) (hne : v ≠ .slice none 0 0) : OwnI B w v l := by
  rcases h.2 with ⟨h', _⟩ | ⟨g, cap, cur, hv, hg, hh, _, _, hs, hx⟩
  · exact absurd h' hne
  · refine ⟨g, cap, cur.toList.drop l.length, hv, hg, ?_⟩
    rw [Nat.mul_one] at hx
    unfold Blk
    rw [hh, ← hx, List.take_append_drop, Array.toArray_toList]
theorem src_cells {w : World} {b o : Nat} {l : List Int} (hr : RdI w (some ⟨b, o, none⟩) l) : ∀ j u, (ints l)[j]? = some u → w.cell? ((⟨b, o, none⟩ : Addr).add j) = some u := fun j u hu => by
  have hj : j < l.length := by have := (List.getElem?_eq_some_iff.1 hu).1; rw [ints_len] at this; exact this
  obtain ⟨b', o', e, _, hc⟩ := hr j hj
  simp only [Option.some.injEq, Addr.mk.injEq, and_true] at e
  obtain ⟨rfl, rfl⟩ := e
  rw [Addr.add_lit, hc]
  simp [ints, hj] at hu
  rw [hu]
theorem ints_one (l : List Int) : ∀ u ∈ ints l, u.oneCell' = true := fun u hu => by
  obtain ⟨x, _, rfl⟩ := List.mem_map.1 hu
  rfl
theorem empty_own (w : World) : (w.alloc (.cells #[] 3)).ownsRow w.heap.size 3 1 (.slice (some ⟨w.heap.size, 0, none⟩) 0 0) 0 [] :=
  World.ownsRow_made (base := w.heap.size) (e := 3) (size := 1) w #[] 0 (by simp) (by unfold maxLen; omega) (by simp)
set_option maxRecDepth 100000 in
theorem implCloneI (b o : Nat) (l : List Int) (c : Nat) (w : World) (hr : RdI w (some ⟨b, o, none⟩) l) (hl : l.length * 8 ≤ 140737488355328) :
    Calls Try.prog 36 #[.slice (some ⟨b, o, none⟩) l.length c] w fun e w' => ∃ v, e = .returned v ∧ OwnI w.heap.size w' v l ∧ Below w.heap.size w w' := by
  obtain ⟨i0, hi, hz0, hz1, hz2⟩ := info_parts intInfo
  go_enter Try.func36, Try.ntmps36
  have hown := empty_own w
  have HL := Lib.hid hl
  clear hl
  have hq := fun w => Lib.run_eql_slice_nil (P := Try.prog) w 26 3 (some ⟨b, o, none⟩) l.length c 0 0 Try.underlying26
  have hr' := hr.on (below_new w (.cells #[] 3))
  go_wp2_with (at_builtin; go_loud (refine wpList_append_own _ rfl _ _ 26 rfl w.heap.size 3 i0 (.int .i64 0) 1 8 Try.underlying26 hi hz0 hz1 hz2 rfl (by decide) _ _ _ rfl hown ⟨b, o, none⟩ l.length c (ints l) rfl (by rw [ints_len, Nat.mul_one]) (src_cells hr') (ints_one l) ?c1 ?c2 ?c3 ?_))
  case c1 => have := HL.out; unfold maxLen; omega
  case c2 => have := HL.out; omega
  case c3 => simp
  intro v' w1 hown1 hgr hnil
  have hbl : Below w.heap.size w w1 := (below_new w _).grown hgr (by simp) (fun k hk => by simp [Value.ownBlock] at hk; omega)
  have hO := ownI_of (l := l) (by simpa using hown1) hnil
  clear hown1 hgr hnil
  go_wp2
  go_ret
  exact ⟨v', rfl, hO, hbl⟩
end Go.Proofs.Ythdiilcpelioaaa

/- What FormatLedger of the program returns. Condition: numbers of int's range, the table internal/strconv.uint64pow10 holds Go's powers of ten. -/
import Derived.Test.YthdiilcpelioaaaDoorLedg
set_option linter.unusedVariables false
set_option linter.unusedSimpArgs false
namespace Go.Proofs.YthdiilcpelioaaaDoor
open Go.RowKit
theorem below_new (w : World) (o : Obj) : Below w.heap.size w (w.alloc o) := (Below.refl _ w).alloc (Nat.le_refl _) o
theorem led_step {B : Nat} {w w1 w2 : World} {p q r s : Value} (hb : Below w1.heap.size w1 w2)
    (h : w1.cell? ⟨B, 0, none⟩ = some p ∧ w1.cell? ⟨B, 1, none⟩ = some q ∧ w1.cell? ⟨B, 2, none⟩ = some r ∧ w1.cell? ⟨B, 3, none⟩ = some s ∧ B < w1.heap.size ∧ Below B w w1) :
    w2.cell? ⟨B, 0, none⟩ = some p ∧ w2.cell? ⟨B, 1, none⟩ = some q ∧ w2.cell? ⟨B, 2, none⟩ = some r ∧ w2.cell? ⟨B, 3, none⟩ = some s ∧ B < w2.heap.size ∧ Below B w w2 := by
  obtain ⟨h0, h1, h2, h3, h4, h5⟩ := h
  exact ⟨(hb.cell h4).trans h0, (hb.cell h4).trans h1, (hb.cell h4).trans h2, (hb.cell h4).trans h3, Nat.lt_of_lt_of_le h4 hb.size, h5.trans (hb.mono (Nat.le_of_lt h4))⟩
theorem rdl3 (w : World) (b c d : Int) (t : TypeId) : Rdl (w.alloc (.cells #[.int .i64 b, .int .i64 c, .int .i64 d] t)) (some ⟨w.heap.size, 0, none⟩) [b, c, d] := by
  intro i hi
  refine ⟨_, rfl, by simp, ?_⟩
  have h3 : i = 0 ∨ i = 1 ∨ i = 2 := by simp at hi; omega
  rcases h3 with rfl | rfl | rfl <;> exact Lib.cell_of_heap (heap_alloc_new w _) _
structure LedI (a b c d : Int) : Prop where
  ha : isInt a
  hb : isInt b
  hc : isInt c
  hd : isInt d
theorem spaced3 {a b c d : Int} (hi : LedI a b c d) {w0 w1 w : World} {B t : Nat} (hP : Pow w0) (hB : B = w1.heap.size) (h0 : Below w0.heap.size w0 w) (hb : Below (w1.alloc (.cells #[.int .i64 b, .int .i64 c, .int .i64 d] t)).heap.size (w1.alloc (.cells #[.int .i64 b, .int .i64 c, .int .i64 d] t)) w) :
    Calls Tryd.prog 18 #[.string ⟨(Lib.itoa a).toArray⟩, .slice (some ⟨B, 0, none⟩) 3 3] w fun e w' => e = .returned (.string ⟨(ledL a b c d).toArray⟩) ∧ Below w.heap.size w w' := by
  subst hB
  have hL := Lib.itoa_length_le a hi.ha.1 hi.ha.2
  have key := spaced ⟨(Lib.itoa a).toArray⟩ (some ⟨w1.heap.size, 0, none⟩) [b, c, d] 3 w ((rdl3 w1 b c d t).on hb)
    (by intro n hn; simp at hn; rcases hn with rfl | rfl | rfl <;> first | exact hi.hb | exact hi.hc | exact hi.hd)
    (by simp [ByteArray.size]; omega) (Pow.on hP h0)
  refine key.mono ?_
  rintro e w' ⟨rfl, h⟩
  exact ⟨by simp [ledL], h⟩
set_option maxHeartbeats 1000000 in
set_option maxRecDepth 100000 in
theorem implFormatLedger (a b c d : Int) (w : World) (ha : isInt a) (hb : isInt b) (hc : isInt c) (hd : isInt d) (hP : Pow w) :
    Calls Tryd.prog 8 #[.agg #[.int .i64 a, .int .i64 b, .int .i64 c, .int .i64 d]] w fun e w' => e = .returned (.string ⟨(ledL a b c d).toArray⟩) ∧ Below w.heap.size w w' := by
  go_enter Tryd.func8, Tryd.ntmps8
  have hI : LedI a b c d := ⟨ha, hb, hc, hd⟩
  go_wp2_with fail
  have hB0 : Below w.heap.size w (w.alloc (.cells #[.int .i64 a, .int .i64 b, .int .i64 c, .int .i64 d] 25)).drew := ((Below.refl _ w).alloc (Nat.le_refl _) _).drew
  go_region_held3 (fun w' => w'.cell? ⟨w.heap.size, 0, none⟩ = some (.int .i64 a) ∧ w'.cell? ⟨w.heap.size, 1, none⟩ = some (.int .i64 b) ∧ w'.cell? ⟨w.heap.size, 2, none⟩ = some (.int .i64 c) ∧ w'.cell? ⟨w.heap.size, 3, none⟩ = some (.int .i64 d) ∧ w.heap.size < w'.heap.size ∧ Below w.heap.size w w')
    (first
      | (go_keep; done)
      | (go_keep; assumption)
      | (go_split_ands; exact led_step hb' ⟨by assumption, by assumption, by assumption, by assumption, by assumption, by assumption⟩)
      | (go_split_ands; exact led_step (below_new _ _) ⟨by assumption, by assumption, by assumption, by assumption, by assumption, by assumption⟩))
    (first
      | (go_at_call 19; refine (formatInt _ _ (by assumption) (Pow.on hP ?_)).mono ?_; (focus (go_split_ands; with_reducible assumption)); rintro e w' ⟨rfl, hb'⟩)
      | (go_at_call 18; refine (spaced3 hI hP ?_ ?_ (Below.refl _ _)).mono ?_; (focus (first | rfl | (simp; done))); (focus (go_split_ands; with_reducible assumption)); rintro e w' ⟨rfl, hb'⟩)
      | (go_at_call 18; refine (spaced3 hI hP ?_ ?_ ((Below.refl _ _).drew.trans hb')).mono ?_; (focus (first | rfl | (simp; done))); (focus (go_split_ands; with_reducible assumption)); rintro e w' ⟨rfl, hb'⟩))
  all_goals
    go_wp2
    go_ret
    refine ⟨rfl, ?_⟩
    rename_i hH
    exact hH.2.2.2.2.2
end Go.Proofs.YthdiilcpelioaaaDoor

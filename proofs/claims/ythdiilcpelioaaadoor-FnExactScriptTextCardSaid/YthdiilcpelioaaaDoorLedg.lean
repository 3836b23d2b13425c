/- What FormatLedger of the program and of the reference return: the same text. Condition: numbers of int's range, the table internal/strconv.uint64pow10 holds Go's powers of ten. -/
import Derived.Test.YthdiilcpelioaaaDoorFmt
import Derived.Tactics2
import Derived.Deep.RegionHeld3
import Derived.Deep.DeepCutAuto
import Derived.OwnWalk
set_option linter.unusedVariables false
set_option linter.unusedSimpArgs false
namespace Go.Proofs.YthdiilcpelioaaaDoor
open Go.RowKit
def ledL (a b c d : Int) : List UInt8 := spacedL (Lib.itoa a) [b, c, d]
def Small (x : List UInt8) : Prop := x.length ≤ 100000
theorem cat_small (x y : List UInt8) (w : World) (hx : Small x) (hy : Small y) :
    (Op.stringOp .add ⟨x.toArray⟩ ⟨y.toArray⟩).run Tryd.prog w = .ok (.string ⟨(x ++ y).toArray⟩) w := by
  unfold Small at hx hy
  rw [run_string_add_sum w _ _ (by simp [ByteArray.size]; omega), ByteArray.mk_append_mk]
attribute [local go_sem ↓] cat_small
set_option maxHeartbeats 1000000 in
set_option maxRecDepth 100000 in
theorem specFormatLedger (a b c d : Int) (w : World) (ha : isInt a) (hb : isInt b) (hc : isInt c) (hd : isInt d) :
    Calls Tryd.prog 6 #[.agg #[.int .i64 a, .int .i64 b, .int .i64 c, .int .i64 d]] w fun e w' => e = .returned (.string ⟨(ledL a b c d).toArray⟩) ∧ Below w.heap.size w w' := by
  go_enter Tryd.func6, Tryd.ntmps6
  have la := Lib.itoa_length_le a ha.1 ha.2
  have lb := Lib.itoa_length_le b hb.1 hb.2
  have lc := Lib.itoa_length_le c hc.1 hc.2
  have ld := Lib.itoa_length_le d hd.1 hd.2
  have s0 : Small [32] := by simp [Small]
  have s1 : Small (Lib.itoa a) := by simp only [Small]; omega
  have s2 : Small (Lib.itoa b) := by simp only [Small]; omega
  have s3 : Small (Lib.itoa c) := by simp only [Small]; omega
  have s4 : Small (Lib.itoa d) := by simp only [Small]; omega
  have s5 : Small (Lib.itoa a ++ [32]) := by simp only [Small, List.length_append, List.length_cons, List.length_nil]; omega
  have s6 : Small (Lib.itoa a ++ [32] ++ Lib.itoa b) := by simp only [Small, List.length_append, List.length_cons, List.length_nil]; omega
  have s7 : Small (Lib.itoa a ++ [32] ++ Lib.itoa b ++ [32]) := by simp only [Small, List.length_append, List.length_cons, List.length_nil]; omega
  have s8 : Small (Lib.itoa a ++ [32] ++ Lib.itoa b ++ [32] ++ Lib.itoa c) := by simp only [Small, List.length_append, List.length_cons, List.length_nil]; omega
  have s9 : Small (Lib.itoa a ++ [32] ++ Lib.itoa b ++ [32] ++ Lib.itoa c ++ [32]) := by simp only [Small, List.length_append, List.length_cons, List.length_nil]; omega
  have t6 := s6; have t7 := s7; have t8 := s8; have t9 := s9
  simp only [List.append_assoc, List.cons_append, List.nil_append] at t6 t7 t8 t9
  clear la lb lc ld
  go_wp2_with fail
  have hB0 : Below w.heap.size w (w.alloc (.cells #[.int .i64 a, .int .i64 b, .int .i64 c, .int .i64 d] 25)).drew := ((Below.refl _ w).alloc (Nat.le_refl _) _).drew
  go_region_held3 (fun w' => w'.cell? ⟨w.heap.size, 0, none⟩ = some (.int .i64 a) ∧ w'.cell? ⟨w.heap.size, 1, none⟩ = some (.int .i64 b) ∧ w'.cell? ⟨w.heap.size, 2, none⟩ = some (.int .i64 c) ∧ w'.cell? ⟨w.heap.size, 3, none⟩ = some (.int .i64 d) ∧ w.heap.size < w'.heap.size ∧ Below w.heap.size w w')
    (first
      | (go_keep; done)
      | (go_keep; assumption)
      | (go_split_ands; exact ⟨(hb'.cell (by assumption)).trans (by assumption), (hb'.cell (by assumption)).trans (by assumption), (hb'.cell (by assumption)).trans (by assumption), (hb'.cell (by assumption)).trans (by assumption), Nat.lt_of_lt_of_le (by assumption) hb'.size, Below.trans (by assumption) (hb'.mono (Nat.le_of_lt (by assumption)))⟩))
    (first | (go_at_call 17; refine (specFormatInt _ _ (by assumption)).mono ?_; rintro e w' ⟨rfl, hb'⟩))
  go_wp2
  go_ret
  refine ⟨by simp [ledL, spacedL], ?_⟩
  rename_i hH
  exact hH.2.2.2.2.2
end Go.Proofs.YthdiilcpelioaaaDoor

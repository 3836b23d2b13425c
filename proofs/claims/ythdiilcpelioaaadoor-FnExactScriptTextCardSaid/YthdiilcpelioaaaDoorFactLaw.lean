/- FnExactFormatAct: it returns true. Condition: the argument's four numbers are of int's range, the table internal/strconv.uint64pow10 holds Go's powers of ten. -/
import Derived.Test.YthdiilcpelioaaaDoorFacti
set_option linter.unusedVariables false
set_option linter.unusedSimpArgs false
namespace Go.Proofs.YthdiilcpelioaaaDoor
open Go.RowKit
set_option maxHeartbeats 1000000 in
theorem toAct (a b c d : Int) (w : World) :
    Calls Tryd.prog 10 #[led a b c d] w fun e w' => e = .returned (led a b c d) ∧ Below w.heap.size w w' := by
  unfold led
  go_enter Tryd.func10, Tryd.ntmps10
  go_wp2
  go_returns
  refine ⟨rfl, ?_⟩
  go_grown
/-- The two results of FormatAct. -/
def actS (k a b c : Int) : ByteArray := if actOk k a b c = true then ⟨(actL k a b c).toArray⟩ else ⟨#[]⟩
theorem actV_eq (k a b c : Int) : actV k a b c = .tuple #[.string (actS k a b c), .bool (actOk k a b c)] := by
  unfold actV actS
  cases actOk k a b c <;> rfl
theorem specFormatAct' {k a b c : Int} (h : LedI k a b c) (w : World) : Calls Tryd.prog 9 #[led k a b c] w fun e w' => e = .returned (.tuple #[.string (actS k a b c), .bool (actOk k a b c)]) ∧ Below w.heap.size w w' := by
  rw [← actV_eq]
  exact specFormatAct k a b c w h
theorem implFormatAct' {k a b c : Int} (h : LedI k a b c) {w0 w : World} (hP : Pow w0) (hb : Below w0.heap.size w0 w) : Calls Tryd.prog 11 #[led k a b c] w fun e w' => e = .returned (.tuple #[.string (actS k a b c), .bool (actOk k a b c)]) ∧ Below w.heap.size w w' := by
  rw [← actV_eq]
  exact implFormatAct k a b c w h (Pow.on hP hb)
set_option maxHeartbeats 1000000 in
theorem factLaw (a b c d : Int) (w : World) (hI : LedI a b c d) (hP : Pow w) :
    Calls Tryd.prog 4 #[led a b c d] w fun e w' => e = .returned (.bool true) ∧ Below w.heap.size w w' := by
  unfold led
  go_enter Tryd.func4, Tryd.ntmps4
  have S0 := led_init w (.int .i64 a) (.int .i64 b) (.int .i64 c) (.int .i64 d) 29
  cases hok : actOk a b c d
  all_goals
    go_wp2_with (first
      | (go_at_call 10; refine (toAct a b c d _).mono ?_; rintro e w1 ⟨rfl, hb1⟩; have S1 := led_step hb1 S0; obtain ⟨c0, c1, c2, c3, c4, c5⟩ := S1; clear S0; unfold led)
      | (go_at_call 9; refine (specFormatAct' hI _).mono ?_; rintro e w2 ⟨rfl, hb2⟩; have S2 := led_step hb2 ⟨c0, c1, c2, c3, c4, c5⟩; clear c0 c1 c2 c3 c4 c5; obtain ⟨c0, c1, c2, c3, c4, c5⟩ := S2)
      | (go_at_call 10; refine (toAct a b c d _).mono ?_; rintro e w3 ⟨rfl, hb3⟩; have S3 := led_step hb3 ⟨c0, c1, c2, c3, c4, c5⟩; clear c0 c1 c2 c3 c4 c5; obtain ⟨c0, c1, c2, c3, c4, c5⟩ := S3; unfold led)
      | (go_at_call 11; refine (implFormatAct' hI hP c5).mono ?_; rintro e w4 ⟨rfl, hb4⟩; have S4 := led_step hb4 ⟨c0, c1, c2, c3, c4, c5⟩))
    go_ret
    exact ⟨rfl, S4.2.2.2.2.2⟩
end Go.Proofs.YthdiilcpelioaaaDoor

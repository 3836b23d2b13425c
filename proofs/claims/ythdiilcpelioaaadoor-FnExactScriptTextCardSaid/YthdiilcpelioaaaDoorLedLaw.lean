/- FnExactFormatLedger: it returns true. Condition: the argument's four numbers are of int's range, the table internal/strconv.uint64pow10 holds Go's powers of ten. -/
import Derived.Test.YthdiilcpelioaaaDoorLedi
import Derived.WalkKit
import Derived.Handy
set_option linter.unusedVariables false
set_option linter.unusedSimpArgs false
namespace Go.Proofs.YthdiilcpelioaaaDoor
open Go.RowKit
def led (a b c d : Int) : Value := .agg #[.int .i64 a, .int .i64 b, .int .i64 c, .int .i64 d]
set_option maxHeartbeats 1000000 in
theorem toLedger (a b c d : Int) (w : World) :
    Calls Tryd.prog 7 #[led a b c d] w fun e w' => e = .returned (led a b c d) ∧ Below w.heap.size w w' := by
  unfold led
  go_enter Tryd.func7, Tryd.ntmps7
  go_wp2
  go_returns
  refine ⟨rfl, ?_⟩
  go_grown
theorem specFormatLedger' {a b c d : Int} (h : LedI a b c d) (w : World) : Calls Tryd.prog 6 #[led a b c d] w fun e w' => e = .returned (.string ⟨(ledL a b c d).toArray⟩) ∧ Below w.heap.size w w' :=
  specFormatLedger a b c d w h.ha h.hb h.hc h.hd
theorem implFormatLedger' {a b c d : Int} (h : LedI a b c d) {w0 w : World} (hP : Pow w0) (hb : Below w0.heap.size w0 w) : Calls Tryd.prog 8 #[led a b c d] w fun e w' => e = .returned (.string ⟨(ledL a b c d).toArray⟩) ∧ Below w.heap.size w w' :=
  implFormatLedger a b c d w h.ha h.hb h.hc h.hd (Pow.on hP hb)
set_option maxHeartbeats 1000000 in
theorem ledLaw (a b c d : Int) (w : World) (hI : LedI a b c d) (hP : Pow w) :
    Calls Tryd.prog 3 #[led a b c d] w fun e w' => e = .returned (.bool true) ∧ Below w.heap.size w w' := by
  unfold led
  go_enter Tryd.func3, Tryd.ntmps3
  have B0 := below_new w (.cells #[.int .i64 a, .int .i64 b, .int .i64 c, .int .i64 d] 23)
  have S0 : (w.alloc (.cells #[.int .i64 a, .int .i64 b, .int .i64 c, .int .i64 d] 23)).cell? ⟨w.heap.size, 0, none⟩ = some (.int .i64 a) ∧ (w.alloc (.cells #[.int .i64 a, .int .i64 b, .int .i64 c, .int .i64 d] 23)).cell? ⟨w.heap.size, 1, none⟩ = some (.int .i64 b) ∧ (w.alloc (.cells #[.int .i64 a, .int .i64 b, .int .i64 c, .int .i64 d] 23)).cell? ⟨w.heap.size, 2, none⟩ = some (.int .i64 c) ∧ (w.alloc (.cells #[.int .i64 a, .int .i64 b, .int .i64 c, .int .i64 d] 23)).cell? ⟨w.heap.size, 3, none⟩ = some (.int .i64 d) ∧ w.heap.size < (w.alloc (.cells #[.int .i64 a, .int .i64 b, .int .i64 c, .int .i64 d] 23)).heap.size ∧ Below w.heap.size w (w.alloc (.cells #[.int .i64 a, .int .i64 b, .int .i64 c, .int .i64 d] 23)) :=
    ⟨Lib.cell_of_heap (heap_alloc_new w _) _, Lib.cell_of_heap (heap_alloc_new w _) _, Lib.cell_of_heap (heap_alloc_new w _) _, Lib.cell_of_heap (heap_alloc_new w _) _, by simp, B0⟩
  go_wp2_with (first
    | (go_at_call 7; refine (toLedger a b c d _).mono ?_; rintro e w1 ⟨rfl, hb1⟩; have S1 := led_step hb1 S0; obtain ⟨c0, c1, c2, c3, c4, c5⟩ := S1; clear S0; unfold led)
    | (go_at_call 6; refine (specFormatLedger' hI _).mono ?_; rintro e w2 ⟨rfl, hb2⟩; have S2 := led_step hb2 ⟨c0, c1, c2, c3, c4, c5⟩; clear c0 c1 c2 c3 c4 c5; obtain ⟨c0, c1, c2, c3, c4, c5⟩ := S2)
    | (go_at_call 7; refine (toLedger a b c d _).mono ?_; rintro e w3 ⟨rfl, hb3⟩; have S3 := led_step hb3 ⟨c0, c1, c2, c3, c4, c5⟩; clear c0 c1 c2 c3 c4 c5; obtain ⟨c0, c1, c2, c3, c4, c5⟩ := S3; unfold led)
    | (go_at_call 8; refine (implFormatLedger' hI hP c5).mono ?_; rintro e w4 ⟨rfl, hb4⟩; have S4 := led_step hb4 ⟨c0, c1, c2, c3, c4, c5⟩))
  go_ret
  exact ⟨rfl, S4.2.2.2.2.2⟩
end Go.Proofs.YthdiilcpelioaaaDoor

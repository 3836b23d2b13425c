/- Equal lists of acts are found equal; the acts of a list are counted. No condition. -/
import Derived.Test.YthdiilcpelioaaaDoorScr
import Derived.Deep.QuietTactic
import Derived.BigQuiet
set_option linter.unusedVariables false
set_option linter.unusedSimpArgs false
namespace Go.Proofs.YthdiilcpelioaaaDoor
open Go.RowKit
set_option maxHeartbeats 1000000 in
theorem eqActSame (k a b c : Int) (w : World) :
    Calls Tryd.prog 24 #[led k a b c, led k a b c] w fun e w' => e = .returned (.bool true) ∧ Below w.heap.size w w' := by
  unfold led
  go_enter Tryd.func24, Tryd.ntmps24
  go_wp2
  go_ret
  exact ⟨rfl, by go_grown⟩
theorem szActS (A : Option Addr) (n c : Nat) (left : Int) (w : World) (h : n ≤ 1000000000000) (hl : left = 1048576) :
    Calls Tryd.prog 12 #[.slice A n c, .int .i64 left] w fun e w' => e = .returned (.int .i64 (if 1048576 < n then -1 else 1048576 - n)) ∧ w = w' := by
  subst hl
  go_enter Tryd.func12, Tryd.ntmps12
  by_cases hn : 1048576 < n
  all_goals
    have hi : IntKind.i64.wrap (1048576 - (n : Int)) = 1048576 - (n : Int) := IntWalk.i64_in _ (by omega)
    have hd : (1048576 - (n : Int) < 0) ↔ 1048576 < n := by omega
    simp only [hn, if_true, if_false]
    go_wp2
    go_ret
    exact ⟨rfl, rfl⟩
theorem cell_on {w1 w2 : World} {a : Addr} {v : Value} (hb : Below w1.heap.size w1 w2) (h : w1.cell? a = some v) : w2.cell? a = some v := (hb.cell (World.block_lt_of_cell? w1 a h)).trans h
set_option maxHeartbeats 1000000 in
theorem eqActS (A B : Option Addr) (l : List ActR) (c d : Nat) (w : World) (hA : RdA w A l) (hB : RdA w B l) (hl : l.length * 32 ≤ 140737488355328) :
    Calls Tryd.prog 16 #[.slice A l.length c, .slice B l.length d] w fun e w' => e = .returned (.bool true) ∧ Below w.heap.size w w' := by
  go_enter Tryd.func16, Tryd.ntmps16
  go_wp2
  go_loopw [5] (fun i wr => ∃ k : Nat, k ≤ l.length ∧ i = .int .i64 k ∧ Below w.heap.size w wr) (fun i _ => l.length - (intOf i).toNat)
  case atStart => exact ⟨0, Nat.zero_le _, rfl, Below.refl _ _⟩
  case round =>
    obtain ⟨k, hk, rfl, hbr⟩ := hrel
    by_cases hlt : k < l.length
    · obtain ⟨b1, o1, rfl, hab, c0, c1, c2, c3⟩ := (hA.on hbr) k hlt
      obtain ⟨b2, o2, rfl, hab2, e0, e1, e2, e3⟩ := (hB.on hbr) k hlt
      have hz : (0 : Int) ≤ (k : Int) := by omega
      have hz2 : (k : Int) < (l.length : Int) := by omega
      have hD : Below w.heap.size w wr.drew := hbr.drew
      have hsz := hbr.size
      go_wp2
      go_region_held3 (fun w' => w'.cell? ⟨b1, o1 + k * 4, none⟩ = some (.int .i64 l[k].k) ∧ w'.cell? ⟨b1, o1 + k * 4 + 1, none⟩ = some (.int .i64 l[k].a) ∧ w'.cell? ⟨b1, o1 + k * 4 + 2, none⟩ = some (.int .i64 l[k].b) ∧ w'.cell? ⟨b1, o1 + k * 4 + 3, none⟩ = some (.int .i64 l[k].c) ∧ w'.cell? ⟨b2, o2 + k * 4, none⟩ = some (.int .i64 l[k].k) ∧ w'.cell? ⟨b2, o2 + k * 4 + 1, none⟩ = some (.int .i64 l[k].a) ∧ w'.cell? ⟨b2, o2 + k * 4 + 2, none⟩ = some (.int .i64 l[k].b) ∧ w'.cell? ⟨b2, o2 + k * 4 + 3, none⟩ = some (.int .i64 l[k].c) ∧ w.heap.size ≤ w'.heap.size ∧ Below w.heap.size w w')
        (first
          | (go_keep; done)
          | (go_keep; with_reducible assumption)
          | (go_split_ands; exact ⟨cell_on hb' (by with_reducible assumption), cell_on hb' (by with_reducible assumption), cell_on hb' (by with_reducible assumption), cell_on hb' (by with_reducible assumption), cell_on hb' (by with_reducible assumption), cell_on hb' (by with_reducible assumption), cell_on hb' (by with_reducible assumption), cell_on hb' (by with_reducible assumption), Nat.le_trans (by with_reducible assumption) hb'.size, Below.trans (by with_reducible assumption) (hb'.mono (by with_reducible assumption))⟩))
        (first
          | (go_at_call 24; refine (eqActSame _ _ _ _ _).mono ?_; rintro e w' ⟨rfl, hb'⟩))
      rename_i hS
      have hw := hS.2.2.2.2.2.2.2.2.2
      clear hS
      go_wp2
      go_roundw
      case rel => exact ⟨k + 1, by omega, by go_num, hw⟩
      case measure => simp [intOf]; omega
    · go_wp2
      go_ret
      exact ⟨rfl, hbr⟩
end Go.Proofs.YthdiilcpelioaaaDoor

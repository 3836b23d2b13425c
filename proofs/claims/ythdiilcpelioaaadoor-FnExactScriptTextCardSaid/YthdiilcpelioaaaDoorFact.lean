/- What the reference's FormatAct returns. Condition: numbers of int's range. -/
import Derived.Test.YthdiilcpelioaaaDoorActi
set_option linter.unusedVariables false
set_option linter.unusedSimpArgs false
namespace Go.Proofs.YthdiilcpelioaaaDoor
open Go.RowKit
/-- The word of an act's kind. -/
def actName (j : Nat) : List UInt8 := match j with
  | 1 => [114, 117, 110]
  | 2 => [114, 97, 105, 110]
  | 3 => [108, 111, 115, 115]
  | 4 => [102, 108, 111, 119]
  | 5 => [100, 101, 99, 97, 121]
  | 6 => [109, 101, 115, 104]
  | 7 => [100, 114, 111, 112]
  | _ => []
/-- An act's text. -/
def actL (k a b c : Int) : List UInt8 := spacedL (actName k.toNat) (if many k = true then [a, b, c] else [a])
def actV (k a b c : Int) : Value := if actOk k a b c = true then .tuple #[.string ⟨(actL k a b c).toArray⟩, .bool true] else .tuple #[.string ⟨#[]⟩, .bool false]
theorem actOk_kind {k a b c : Int} (h : actOk k a b c = true) : k = 1 ∨ k = 2 ∨ k = 3 ∨ k = 4 ∨ k = 5 ∨ k = 6 ∨ k = 7 := by
  unfold actOk at h
  by_cases h1 : k = 1
  · simp [h1]
  by_cases h2 : k = 2
  · simp [h2]
  by_cases h3 : k = 3
  · simp [h3]
  by_cases h4 : k = 4
  · simp [h4]
  by_cases h5 : k = 5
  · simp [h5]
  by_cases h6 : k = 6
  · simp [h6]
  by_cases h7 : k = 7
  · simp [h7]
  simp [h1, h2, h3, h4, h5, h6, h7] at h
theorem led_init (w : World) (p q r s : Value) (t : TypeId) :
    (w.alloc (.cells #[p, q, r, s] t)).cell? ⟨w.heap.size, 0, none⟩ = some p ∧ (w.alloc (.cells #[p, q, r, s] t)).cell? ⟨w.heap.size, 1, none⟩ = some q ∧ (w.alloc (.cells #[p, q, r, s] t)).cell? ⟨w.heap.size, 2, none⟩ = some r ∧ (w.alloc (.cells #[p, q, r, s] t)).cell? ⟨w.heap.size, 3, none⟩ = some s ∧ w.heap.size < (w.alloc (.cells #[p, q, r, s] t)).heap.size ∧ Below w.heap.size w (w.alloc (.cells #[p, q, r, s] t)) :=
  ⟨Lib.cell_of_heap (heap_alloc_new w _) _, Lib.cell_of_heap (heap_alloc_new w _) _, Lib.cell_of_heap (heap_alloc_new w _) _, Lib.cell_of_heap (heap_alloc_new w _) _, by simp, below_new _ _⟩
attribute [local go_sem ↓] cat_small
set_option maxHeartbeats 4000000 in
set_option maxRecDepth 100000 in
theorem specFormatAct (k a b c : Int) (w : World) (hI : LedI k a b c) :
    Calls Tryd.prog 9 #[led k a b c] w fun e w' => e = .returned (actV k a b c) ∧ Below w.heap.size w w' := by
  obtain ⟨hk, ha, hb, hc⟩ := hI
  unfold led
  go_enter Tryd.func9, Tryd.ntmps9
  have hB0 : Below w.heap.size w (w.alloc (.cells #[.int .i64 k, .int .i64 a, .int .i64 b, .int .i64 c] 32)) := ((Below.refl _ w).alloc (Nat.le_refl _) _)
  have hlt0 : w.heap.size < (w.alloc (.cells #[.int .i64 k, .int .i64 a, .int .i64 b, .int .i64 c] 32)).heap.size := by simp
  have la := Lib.itoa_length_le a ha.1 ha.2
  have lb := Lib.itoa_length_le b hb.1 hb.2
  have lc := Lib.itoa_length_le c hc.1 hc.2
  have s0 : Small [32] := by simp [Small]
  have s1 : Small (Lib.itoa a) := by simp only [Small]; omega
  have s2 : Small (Lib.itoa b) := by simp only [Small]; omega
  have s3 : Small (Lib.itoa c) := by simp only [Small]; omega
  have s4 : Small (32 :: Lib.itoa a) := by simp only [Small, List.length_append, List.length_cons, List.length_nil]; omega
  have s5 : Small (32 :: (Lib.itoa a ++ [32])) := by simp only [Small, List.length_append, List.length_cons, List.length_nil]; omega
  have s6 : Small (32 :: (Lib.itoa a ++ 32 :: Lib.itoa b)) := by simp only [Small, List.length_append, List.length_cons, List.length_nil]; omega
  have s7 : Small (32 :: (Lib.itoa a ++ 32 :: (Lib.itoa b ++ [32]))) := by simp only [Small, List.length_append, List.length_cons, List.length_nil]; omega
  have s8 : Small (32 :: (Lib.itoa a ++ 32 :: (Lib.itoa b ++ 32 :: Lib.itoa c))) := by simp only [Small, List.length_append, List.length_cons, List.length_nil]; omega
  have n1 : Small (actName 1) := by simp [Small, actName]
  have n2 : Small (actName 2) := by simp [Small, actName]
  have n3 : Small (actName 3) := by simp [Small, actName]
  have n4 : Small (actName 4) := by simp [Small, actName]
  have n5 : Small (actName 5) := by simp [Small, actName]
  have n6 : Small (actName 6) := by simp [Small, actName]
  have n7 : Small (actName 7) := by simp [Small, actName]
  simp only [actName] at n1 n2 n3 n4 n5 n6 n7
  clear la lb lc
  cases hok : actOk k a b c
  · go_wp2_with (go_at_call 20; refine (specActOk k a b c _ _ hok).mono ?_; rintro e w1 ⟨rfl, hb1⟩)
    go_returns
    exact ⟨by simp [actV, hok], hB0.trans (hb1.mono (Nat.le_of_lt hlt0))⟩
  · go_wp2_with (first
      | (go_at_call 20; refine (specActOk k a b c _ _ hok).mono ?_; rintro e w1 ⟨rfl, hb1⟩; have S1 := led_step hb1 (led_init w (.int .i64 k) (.int .i64 a) (.int .i64 b) (.int .i64 c) 32); clear hb1; obtain ⟨c0, c1, c2, c3, c4, c5⟩ := S1)
      | (go_at_call 17; refine (specFormatInt _ _ (by assumption)).mono ?_; rintro e w2 ⟨rfl, hb2⟩; have S2 := led_step hb2 ⟨c0, c1, c2, c3, c4, c5⟩; clear c0 c1 c2 c3 c4 c5; obtain ⟨c0, c1, c2, c3, c4, c5⟩ := S2))
    clear hB0 hlt0 hb2
    have hD : Below w.heap.size w w2.drew := c5.drew
    go_region_held3 (fun w' => w'.cell? ⟨w.heap.size, 0, none⟩ = some (.int .i64 k) ∧ w'.cell? ⟨w.heap.size, 1, none⟩ = some (.int .i64 a) ∧ w'.cell? ⟨w.heap.size, 2, none⟩ = some (.int .i64 b) ∧ w'.cell? ⟨w.heap.size, 3, none⟩ = some (.int .i64 c) ∧ w.heap.size < w'.heap.size ∧ Below w.heap.size w w')
      (first
        | (go_keep; done)
        | (go_keep; assumption)
        | (go_split_ands; exact led_step hb' ⟨by assumption, by assumption, by assumption, by assumption, by assumption, by assumption⟩))
      (first
        | (go_at_call 17; refine (specFormatInt _ _ (by assumption)).mono ?_; rintro e w' ⟨rfl, hb'⟩))
    rename_i hS
    clear c0 c1 c2 c3 c4 c5 hD hb'
    obtain ⟨c0, c1, c2, c3, c4, c5⟩ := hS
    rcases actOk_kind hok with rfl | rfl | rfl | rfl | rfl | rfl | rfl
    all_goals
      go_wp2
      go_returns
      exact ⟨by simp [actV, hok, actL, actName, many, spacedL], c5⟩
end Go.Proofs.YthdiilcpelioaaaDoor

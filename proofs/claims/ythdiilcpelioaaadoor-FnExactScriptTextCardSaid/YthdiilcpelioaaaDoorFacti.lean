/- What the program's FormatAct returns. Condition: numbers of int's range, the table internal/strconv.uint64pow10 holds Go's powers of ten. -/
import Derived.Test.YthdiilcpelioaaaDoorFact
set_option linter.unusedVariables false
set_option linter.unusedSimpArgs false
namespace Go.Proofs.YthdiilcpelioaaaDoor
open Go.RowKit
set_option maxHeartbeats 1000000 in
theorem actNames (j : Nat) (hj : j < 8) (w : World) :
    Calls Tryd.prog 23 #[] w fun e w' => e = .returned (.slice (some ⟨w.heap.size, 0, none⟩) 8 8) ∧ Below w.heap.size w w' ∧ w'.cell? ⟨w.heap.size, j, none⟩ = some (.string ⟨(actName j).toArray⟩) ∧ w.heap.size < w'.heap.size := by
  go_enter Tryd.func23, Tryd.ntmps23
  go_wp2
  go_ret
  refine ⟨by simp, by go_grown, ?_, by simp⟩
  have h8 : j = 0 ∨ j = 1 ∨ j = 2 ∨ j = 3 ∨ j = 4 ∨ j = 5 ∨ j = 6 ∨ j = 7 := by omega
  rcases h8 with rfl | rfl | rfl | rfl | rfl | rfl | rfl | rfl <;> exact Lib.cell_of_heap (heap_alloc_new w _) _
theorem rdl1 (w : World) (a : Int) (t : TypeId) : Rdl (w.alloc (.cells #[.int .i64 a] t)) (some ⟨w.heap.size, 0, none⟩) [a] := by
  intro i hi
  refine ⟨_, rfl, by simp, ?_⟩
  obtain rfl : i = 0 := by simp at hi; omega
  exact Lib.cell_of_heap (heap_alloc_new w _) _
theorem actName_len (j : Nat) : (actName j).length ≤ 5 := by
  unfold actName
  split <;> simp
theorem spacedAct1 {j : Nat} {a : Int} (hi : isInt a) {w0 w1 w : World} {B t : Nat} (hP : Pow w0) (hB : B = w1.heap.size) (h0 : Below w0.heap.size w0 w) (hb : Below (w1.alloc (.cells #[.int .i64 a] t)).heap.size (w1.alloc (.cells #[.int .i64 a] t)) w) :
    Calls Tryd.prog 18 #[.string ⟨(actName j).toArray⟩, .slice (some ⟨B, 0, none⟩) 1 1] w fun e w' => e = .returned (.string ⟨(spacedL (actName j) [a]).toArray⟩) ∧ Below w.heap.size w w' := by
  subst hB
  have hL := actName_len j
  have key := spaced ⟨(actName j).toArray⟩ (some ⟨w1.heap.size, 0, none⟩) [a] 1 w ((rdl1 w1 a t).on hb)
    (by intro n hn; simp at hn; subst hn; exact hi)
    (by simp [ByteArray.size]; omega) (Pow.on hP h0)
  refine key.mono ?_
  rintro e w' ⟨rfl, h⟩
  exact ⟨by simp, h⟩
theorem spacedAct3 {j : Nat} {k a b c : Int} (hi : LedI k a b c) {w0 w1 w : World} {B t : Nat} (hP : Pow w0) (hB : B = w1.heap.size) (h0 : Below w0.heap.size w0 w) (hb : Below (w1.alloc (.cells #[.int .i64 a, .int .i64 b, .int .i64 c] t)).heap.size (w1.alloc (.cells #[.int .i64 a, .int .i64 b, .int .i64 c] t)) w) :
    Calls Tryd.prog 18 #[.string ⟨(actName j).toArray⟩, .slice (some ⟨B, 0, none⟩) 3 3] w fun e w' => e = .returned (.string ⟨(spacedL (actName j) [a, b, c]).toArray⟩) ∧ Below w.heap.size w w' := by
  subst hB
  have hL := actName_len j
  have key := spaced ⟨(actName j).toArray⟩ (some ⟨w1.heap.size, 0, none⟩) [a, b, c] 3 w ((rdl3 w1 a b c t).on hb)
    (by intro n hn; simp at hn; rcases hn with rfl | rfl | rfl <;> first | exact hi.hb | exact hi.hc | exact hi.hd)
    (by simp [ByteArray.size]; omega) (Pow.on hP h0)
  refine key.mono ?_
  rintro e w' ⟨rfl, h⟩
  exact ⟨by simp, h⟩
theorem sharpen {P : Program} {ops : Array Oper} {Q : Exit → Act → World → Prop} {md : Region.Mode} {S S' : World → Prop} (hS : ∀ w, S' w → S w) : ∀ (fuel : Nat) (listed : Array Bool) (a : Act) (w : World), wpAnyH P md ops Q S' fuel listed a w → wpAnyH P md ops Q S fuel listed a w
  | 0, _, _, _, h => h
  | fuel + 1, _, _, _, h => ⟨h.1, fun i hi => wpOp_mono (fun a' w' h' => ⟨hS w' h'.1, sharpen hS fuel _ a' w' h'.2⟩) (h.2 i hi)⟩
/-- The act's cells, and what came before. -/
def Act4 (w0 : World) (k a b c : Int) (w' : World) : Prop := w'.cell? ⟨w0.heap.size, 0, none⟩ = some (.int .i64 k) ∧ w'.cell? ⟨w0.heap.size, 1, none⟩ = some (.int .i64 a) ∧ w'.cell? ⟨w0.heap.size, 2, none⟩ = some (.int .i64 b) ∧ w'.cell? ⟨w0.heap.size, 3, none⟩ = some (.int .i64 c) ∧ w0.heap.size < w'.heap.size ∧ Below w0.heap.size w0 w'
def Act5 (w0 : World) (k a b c : Int) (n j : Nat) (w' : World) : Prop := Act4 w0 k a b c w' ∧ w'.cell? ⟨n, j, none⟩ = some (.string ⟨(actName j).toArray⟩)
theorem act5_step {w0 w1 w2 : World} {k a b c : Int} {n j : Nat} (hb : Below w1.heap.size w1 w2) (h : Act5 w0 k a b c n j w1) : Act5 w0 k a b c n j w2 :=
  ⟨led_step hb h.1, (hb.cell (World.block_lt_of_cell? _ _ h.2)).trans h.2⟩
set_option maxHeartbeats 4000000 in
set_option maxRecDepth 100000 in
theorem implFormatAct (k a b c : Int) (w : World) (hI : LedI k a b c) (hP : Pow w) :
    Calls Tryd.prog 11 #[led k a b c] w fun e w' => e = .returned (actV k a b c) ∧ Below w.heap.size w w' := by
  have ha := hI.hb
  unfold led
  go_enter Tryd.func11, Tryd.ntmps11
  have hB0 : Below w.heap.size w (w.alloc (.cells #[.int .i64 k, .int .i64 a, .int .i64 b, .int .i64 c] 32)) := ((Below.refl _ w).alloc (Nat.le_refl _) _)
  have hlt0 : w.heap.size < (w.alloc (.cells #[.int .i64 k, .int .i64 a, .int .i64 b, .int .i64 c] 32)).heap.size := by simp
  cases hok : actOk k a b c
  · go_wp2_with (go_at_call 21; refine (implActOk k a b c _ _ hok).mono ?_; rintro e w1 ⟨rfl, hb1⟩)
    go_returns
    exact ⟨by simp [actV, hok], hB0.trans (hb1.mono (Nat.le_of_lt hlt0))⟩
  have hj : ∃ j : Nat, k = j ∧ j < 8 ∧ 0 < j := by
    rcases actOk_kind hok with rfl | rfl | rfl | rfl | rfl | rfl | rfl
    · exact ⟨1, rfl, by omega, by omega⟩
    · exact ⟨2, rfl, by omega, by omega⟩
    · exact ⟨3, rfl, by omega, by omega⟩
    · exact ⟨4, rfl, by omega, by omega⟩
    · exact ⟨5, rfl, by omega, by omega⟩
    · exact ⟨6, rfl, by omega, by omega⟩
    · exact ⟨7, rfl, by omega, by omega⟩
  obtain ⟨j, rfl, hj8, hj0⟩ := hj
  have hz : (0 : Int) ≤ (j : Int) := by omega
  have h8 : (j : Int) < 8 := by omega
  cases hm : many (j : Int)
  · go_wp2_with (first
      | (go_at_call 21; refine (implActOk _ a b c _ _ hok).mono ?_; rintro e w1 ⟨rfl, hb1⟩; have S1 := led_step hb1 (led_init w (.int .i64 (j : Int)) (.int .i64 a) (.int .i64 b) (.int .i64 c) 32); clear hb1; obtain ⟨c0, c1, c2, c3, c4, c5⟩ := S1)
      | (go_at_call 22; refine (isSingle _ true _ (by rw [hm]; rfl)).mono ?_; rintro e w2 ⟨rfl, rfl⟩))
    have hD : Act4 w (j : Int) a b c w2.drew := ⟨by go_simp, by go_simp, by go_simp, by go_simp, by go_simp, c5.drew⟩
    clear hB0 hlt0 c0 c1 c2 c3 c4 c5
    refine wp_region_held_drew (S := Act4 w (j : Int) a b c) (by kernel_rfl) hD (fun hHeld => ?_)
    refine wpAnyH_take (i := 1) (v := ?_) rfl (by kernel_rfl) (by kernel_rfl) (by kernel_rfl) (fun _ _ _ h => h) (Or.inl ⟨by rfl, ?_⟩) (by with_reducible assumption) ?_
    rotate_left 1
    · intro w hSw
      (try dsimp only at hSw)
      simp only [Act4] at hSw
      go_split_ands
      go_simp
      try with_reducible rfl
    try simp only [List.getElem_toArray, List.getElem_cons_succ, List.getElem_cons_zero, Act.put, List.setIfInBounds_toArray, List.set_cons_zero, List.set_cons_succ]
    refine wpAnyH_take (i := 2) (v := ?_) rfl (by kernel_rfl) (by kernel_rfl) (by kernel_rfl) (fun _ _ _ h => h) (Or.inl ⟨by rfl, ?_⟩) (by with_reducible assumption) ?_
    rotate_left 1
    · intro w hSw
      (try dsimp only at hSw)
      simp only [Act4] at hSw
      go_split_ands
      go_simp
      try with_reducible rfl
    try simp only [List.getElem_toArray, List.getElem_cons_succ, List.getElem_cons_zero, Act.put, List.setIfInBounds_toArray, List.set_cons_zero, List.set_cons_succ]
    refine wpAnyH_take (i := 5) (v := ?_) rfl (by kernel_rfl) (by kernel_rfl) (by kernel_rfl) (fun _ _ _ h => h) (Or.inl ⟨by rfl, ?_⟩) (by with_reducible assumption) ?_
    rotate_left 1
    · intro w hSw
      (try dsimp only at hSw)
      simp only [Act4] at hSw
      go_split_ands
      go_simp
      try with_reducible rfl
    try simp only [List.getElem_toArray, List.getElem_cons_succ, List.getElem_cons_zero, Act.put, List.setIfInBounds_toArray, List.set_cons_zero, List.set_cons_succ]
    refine wpAnyH_take (i := 6) (v := ?_) rfl (by kernel_rfl) (by kernel_rfl) (by kernel_rfl) (fun _ _ _ h => h) (Or.inl ⟨by rfl, ?_⟩) (by with_reducible assumption) ?_
    rotate_left 1
    · intro w hSw
      (try dsimp only at hSw)
      simp only [Act4] at hSw
      go_split_ands
      go_simp
      try with_reducible rfl
    try simp only [List.getElem_toArray, List.getElem_cons_succ, List.getElem_cons_zero, Act.put, List.setIfInBounds_toArray, List.set_cons_zero, List.set_cons_succ]
    refine wpAnyH_ready (rs := [0, 7]) (by kernel_rfl) (by simp) ?_
    refine AllReadyH.cons rfl (fun K hK => ?_) (AllReadyH.cons rfl (fun K hK => ?_) AllReadyH.nil)
    · go_simp
      go_wp2_with (go_at_call 23; refine (actNames j hj8 _).mono ?_; rintro e w' ⟨rfl, hb', hn', hlt'⟩; simp only [World.size_drew, World.size_alloc] at hn' hlt')
      refine hK.out _ _ (led_step hb' hHeld) (fun hHeld1 => ?_)
      clear hK K
      refine sharpen (S' := Act5 w (j : Int) a b c w2.heap.size j) (fun _ h => h.1) _ _ _ _ ?_
      have h5 : Act5 w (j : Int) a b c w2.heap.size j w' := ⟨hHeld1, hn'⟩
      clear hHeld1 hn' hb' hlt'
      refine wpAnyH_take (i := 3) (v := ?_) rfl (by kernel_rfl) (by kernel_rfl) (by kernel_rfl) (fun _ _ _ h => h) (Or.inl ⟨by rfl, ?_⟩) (by with_reducible assumption) ?_
      rotate_left 1
      · intro w hSw
        (try dsimp only at hSw)
        simp only [Act5, Act4] at hSw
        go_split_ands
        go_simp
        try with_reducible rfl
      try simp only [List.getElem_toArray, List.getElem_cons_succ, List.getElem_cons_zero, Act.put, List.setIfInBounds_toArray, List.set_cons_zero, List.set_cons_succ]
      refine wpAnyH_take (i := 4) (v := ?_) rfl (by kernel_rfl) (by kernel_rfl) (by kernel_rfl) (fun _ _ _ h => h) (Or.inl ⟨by rfl, ?_⟩) (by with_reducible assumption) ?_
      rotate_left 1
      · intro w hSw
        (try dsimp only at hSw)
        simp only [Act5, Act4] at hSw
        go_split_ands
        go_simp
        try with_reducible rfl
      try simp only [List.getElem_toArray, List.getElem_cons_succ, List.getElem_cons_zero, Act.put, List.setIfInBounds_toArray, List.set_cons_zero, List.set_cons_succ]
      refine wpAnyH_ready (rs := [7]) (by kernel_rfl) (by simp) ?_
      refine AllReadyH.cons rfl (fun K hK => ?_) AllReadyH.nil
      go_simp
      refine hK.out _ _ (act5_step (below_new _ _) h5) (fun h6 => ?_)
      clear hK K
      refine wpAnyH_ready (rs := [8]) (by kernel_rfl) (by simp) ?_
      refine AllReadyH.cons rfl (fun K hK => ?_) AllReadyH.nil
      go_simp
      go_wp2_with (go_at_call 18; refine (spacedAct1 ha hP ?_ ?_ (Below.refl _ _)).mono ?_; (focus (first | rfl | (simp; done))); (focus (exact h6.1.2.2.2.2.2)); rintro e w4 ⟨rfl, hb4⟩)
      refine hK.out _ _ (act5_step hb4 h6) (fun h7 => ?_)
      clear hK K
      refine wpAnyH_take (i := 9) (v := ?_) rfl (by kernel_rfl) (by kernel_rfl) (by kernel_rfl) (fun _ _ _ h => h) (Or.inl ⟨by rfl, ?_⟩) (by with_reducible assumption) ?_
      rotate_left 1
      · intro w hSw
        (try dsimp only at hSw)
        simp only [Act5, Act4] at hSw
        go_split_ands
        go_simp
        try with_reducible rfl
      try simp only [List.getElem_toArray, List.getElem_cons_succ, List.getElem_cons_zero, Act.put, List.setIfInBounds_toArray, List.set_cons_zero, List.set_cons_succ]
      refine wpAnyH_take (i := 10) (v := ?_) rfl (by kernel_rfl) (by kernel_rfl) (by kernel_rfl) (fun _ _ _ h => h) (Or.inl ⟨by rfl, ?_⟩) (by with_reducible assumption) ?_
      rotate_left 1
      · intro w hSw
        (try dsimp only at hSw)
        simp only [Act5, Act4] at hSw
        go_split_ands
        go_simp
        try with_reducible rfl
      try simp only [List.getElem_toArray, List.getElem_cons_succ, List.getElem_cons_zero, Act.put, List.setIfInBounds_toArray, List.set_cons_zero, List.set_cons_succ]
      refine wpAnyH_done (by kernel_rfl) ?_ _
      go_wp2
      go_returns
      exact ⟨by simp [actV, hok, actL, hm], h7.1.2.2.2.2.2⟩
    · go_simp
      refine hK.out _ _ (led_step (below_new _ _) hHeld) (fun hHeld1 => ?_)
      clear hK K
      refine wpAnyH_ready (rs := [0]) (by kernel_rfl) (by simp) ?_
      refine AllReadyH.cons rfl (fun K hK => ?_) AllReadyH.nil
      go_simp
      go_wp2_with (go_at_call 23; refine (actNames j hj8 _).mono ?_; rintro e w' ⟨rfl, hb', hn', hlt'⟩; simp only [World.size_drew, World.size_alloc] at hn' hlt')
      refine hK.out _ _ (led_step hb' hHeld1) (fun hHeld2 => ?_)
      clear hK K
      refine sharpen (S' := Act5 w (j : Int) a b c (w2.heap.size + 1) j) (fun _ h => h.1) _ _ _ _ ?_
      have h5 : Act5 w (j : Int) a b c (w2.heap.size + 1) j w' := ⟨hHeld2, hn'⟩
      clear hHeld2 hn' hlt'
      refine wpAnyH_take (i := 3) (v := ?_) rfl (by kernel_rfl) (by kernel_rfl) (by kernel_rfl) (fun _ _ _ h => h) (Or.inl ⟨by rfl, ?_⟩) (by with_reducible assumption) ?_
      rotate_left 1
      · intro w hSw
        (try dsimp only at hSw)
        simp only [Act5, Act4] at hSw
        go_split_ands
        go_simp
        try with_reducible rfl
      try simp only [List.getElem_toArray, List.getElem_cons_succ, List.getElem_cons_zero, Act.put, List.setIfInBounds_toArray, List.set_cons_zero, List.set_cons_succ]
      refine wpAnyH_take (i := 4) (v := ?_) rfl (by kernel_rfl) (by kernel_rfl) (by kernel_rfl) (fun _ _ _ h => h) (Or.inl ⟨by rfl, ?_⟩) (by with_reducible assumption) ?_
      rotate_left 1
      · intro w hSw
        (try dsimp only at hSw)
        simp only [Act5, Act4] at hSw
        go_split_ands
        go_simp
        try with_reducible rfl
      try simp only [List.getElem_toArray, List.getElem_cons_succ, List.getElem_cons_zero, Act.put, List.setIfInBounds_toArray, List.set_cons_zero, List.set_cons_succ]
      refine wpAnyH_ready (rs := [8]) (by kernel_rfl) (by simp) ?_
      refine AllReadyH.cons rfl (fun K hK => ?_) AllReadyH.nil
      go_simp
      go_wp2_with (go_at_call 18; refine (spacedAct1 ha hP ?_ ?_ ((Below.refl _ _).drew.trans hb')).mono ?_; (focus (first | rfl | (simp; done))); (focus (exact h5.1.2.2.2.2.2)); rintro e w4 ⟨rfl, hb4⟩)
      refine hK.out _ _ (act5_step hb4 h5) (fun h7 => ?_)
      clear hK K
      refine wpAnyH_take (i := 9) (v := ?_) rfl (by kernel_rfl) (by kernel_rfl) (by kernel_rfl) (fun _ _ _ h => h) (Or.inl ⟨by rfl, ?_⟩) (by with_reducible assumption) ?_
      rotate_left 1
      · intro w hSw
        (try dsimp only at hSw)
        simp only [Act5, Act4] at hSw
        go_split_ands
        go_simp
        try with_reducible rfl
      try simp only [List.getElem_toArray, List.getElem_cons_succ, List.getElem_cons_zero, Act.put, List.setIfInBounds_toArray, List.set_cons_zero, List.set_cons_succ]
      refine wpAnyH_take (i := 10) (v := ?_) rfl (by kernel_rfl) (by kernel_rfl) (by kernel_rfl) (fun _ _ _ h => h) (Or.inl ⟨by rfl, ?_⟩) (by with_reducible assumption) ?_
      rotate_left 1
      · intro w hSw
        (try dsimp only at hSw)
        simp only [Act5, Act4] at hSw
        go_split_ands
        go_simp
        try with_reducible rfl
      try simp only [List.getElem_toArray, List.getElem_cons_succ, List.getElem_cons_zero, Act.put, List.setIfInBounds_toArray, List.set_cons_zero, List.set_cons_succ]
      refine wpAnyH_done (by kernel_rfl) ?_ _
      go_wp2
      go_returns
      exact ⟨by simp [actV, hok, actL, hm], h7.1.2.2.2.2.2⟩
  · go_wp2_with (first
      | (go_at_call 21; refine (implActOk _ a b c _ _ hok).mono ?_; rintro e w1 ⟨rfl, hb1⟩; have S1 := led_step hb1 (led_init w (.int .i64 (j : Int)) (.int .i64 a) (.int .i64 b) (.int .i64 c) 32); clear hb1; obtain ⟨c0, c1, c2, c3, c4, c5⟩ := S1)
      | (go_at_call 22; refine (isSingle _ false _ (by rw [hm]; rfl)).mono ?_; rintro e w2 ⟨rfl, rfl⟩))
    have hD : Act4 w (j : Int) a b c w2.drew := ⟨by go_simp, by go_simp, by go_simp, by go_simp, by go_simp, c5.drew⟩
    clear hB0 hlt0 c0 c1 c2 c3 c4 c5
    refine wp_region_held_drew (S := Act4 w (j : Int) a b c) (by kernel_rfl) hD (fun hHeld => ?_)
    refine wpAnyH_take (i := 1) (v := ?_) rfl (by kernel_rfl) (by kernel_rfl) (by kernel_rfl) (fun _ _ _ h => h) (Or.inl ⟨by rfl, ?_⟩) (by with_reducible assumption) ?_
    rotate_left 1
    · intro w hSw
      (try dsimp only at hSw)
      simp only [Act4] at hSw
      go_split_ands
      go_simp
      try with_reducible rfl
    try simp only [List.getElem_toArray, List.getElem_cons_succ, List.getElem_cons_zero, Act.put, List.setIfInBounds_toArray, List.set_cons_zero, List.set_cons_succ]
    refine wpAnyH_take (i := 2) (v := ?_) rfl (by kernel_rfl) (by kernel_rfl) (by kernel_rfl) (fun _ _ _ h => h) (Or.inl ⟨by rfl, ?_⟩) (by with_reducible assumption) ?_
    rotate_left 1
    · intro w hSw
      (try dsimp only at hSw)
      simp only [Act4] at hSw
      go_split_ands
      go_simp
      try with_reducible rfl
    try simp only [List.getElem_toArray, List.getElem_cons_succ, List.getElem_cons_zero, Act.put, List.setIfInBounds_toArray, List.set_cons_zero, List.set_cons_succ]
    refine wpAnyH_take (i := 5) (v := ?_) rfl (by kernel_rfl) (by kernel_rfl) (by kernel_rfl) (fun _ _ _ h => h) (Or.inl ⟨by rfl, ?_⟩) (by with_reducible assumption) ?_
    rotate_left 1
    · intro w hSw
      (try dsimp only at hSw)
      simp only [Act4] at hSw
      go_split_ands
      go_simp
      try with_reducible rfl
    try simp only [List.getElem_toArray, List.getElem_cons_succ, List.getElem_cons_zero, Act.put, List.setIfInBounds_toArray, List.set_cons_zero, List.set_cons_succ]
    refine wpAnyH_take (i := 6) (v := ?_) rfl (by kernel_rfl) (by kernel_rfl) (by kernel_rfl) (fun _ _ _ h => h) (Or.inl ⟨by rfl, ?_⟩) (by with_reducible assumption) ?_
    rotate_left 1
    · intro w hSw
      (try dsimp only at hSw)
      simp only [Act4] at hSw
      go_split_ands
      go_simp
      try with_reducible rfl
    try simp only [List.getElem_toArray, List.getElem_cons_succ, List.getElem_cons_zero, Act.put, List.setIfInBounds_toArray, List.set_cons_zero, List.set_cons_succ]
    refine wpAnyH_take (i := 7) (v := ?_) rfl (by kernel_rfl) (by kernel_rfl) (by kernel_rfl) (fun _ _ _ h => h) (Or.inl ⟨by rfl, ?_⟩) (by with_reducible assumption) ?_
    rotate_left 1
    · intro w hSw
      (try dsimp only at hSw)
      simp only [Act4] at hSw
      go_split_ands
      go_simp
      try with_reducible rfl
    try simp only [List.getElem_toArray, List.getElem_cons_succ, List.getElem_cons_zero, Act.put, List.setIfInBounds_toArray, List.set_cons_zero, List.set_cons_succ]
    refine wpAnyH_take (i := 8) (v := ?_) rfl (by kernel_rfl) (by kernel_rfl) (by kernel_rfl) (fun _ _ _ h => h) (Or.inl ⟨by rfl, ?_⟩) (by with_reducible assumption) ?_
    rotate_left 1
    · intro w hSw
      (try dsimp only at hSw)
      simp only [Act4] at hSw
      go_split_ands
      go_simp
      try with_reducible rfl
    try simp only [List.getElem_toArray, List.getElem_cons_succ, List.getElem_cons_zero, Act.put, List.setIfInBounds_toArray, List.set_cons_zero, List.set_cons_succ]
    refine wpAnyH_take (i := 9) (v := ?_) rfl (by kernel_rfl) (by kernel_rfl) (by kernel_rfl) (fun _ _ _ h => h) (Or.inl ⟨by rfl, ?_⟩) (by with_reducible assumption) ?_
    rotate_left 1
    · intro w hSw
      (try dsimp only at hSw)
      simp only [Act4] at hSw
      go_split_ands
      go_simp
      try with_reducible rfl
    try simp only [List.getElem_toArray, List.getElem_cons_succ, List.getElem_cons_zero, Act.put, List.setIfInBounds_toArray, List.set_cons_zero, List.set_cons_succ]
    refine wpAnyH_take (i := 10) (v := ?_) rfl (by kernel_rfl) (by kernel_rfl) (by kernel_rfl) (fun _ _ _ h => h) (Or.inl ⟨by rfl, ?_⟩) (by with_reducible assumption) ?_
    rotate_left 1
    · intro w hSw
      (try dsimp only at hSw)
      simp only [Act4] at hSw
      go_split_ands
      go_simp
      try with_reducible rfl
    try simp only [List.getElem_toArray, List.getElem_cons_succ, List.getElem_cons_zero, Act.put, List.setIfInBounds_toArray, List.set_cons_zero, List.set_cons_succ]
    refine wpAnyH_ready (rs := [0, 11]) (by kernel_rfl) (by simp) ?_
    refine AllReadyH.cons rfl (fun K hK => ?_) (AllReadyH.cons rfl (fun K hK => ?_) AllReadyH.nil)
    · go_simp
      go_wp2_with (go_at_call 23; refine (actNames j hj8 _).mono ?_; rintro e w' ⟨rfl, hb', hn', hlt'⟩; simp only [World.size_drew, World.size_alloc] at hn' hlt')
      refine hK.out _ _ (led_step hb' hHeld) (fun hHeld1 => ?_)
      clear hK K
      refine sharpen (S' := Act5 w (j : Int) a b c w2.heap.size j) (fun _ h => h.1) _ _ _ _ ?_
      have h5 : Act5 w (j : Int) a b c w2.heap.size j w' := ⟨hHeld1, hn'⟩
      clear hHeld1 hn' hb' hlt'
      refine wpAnyH_take (i := 3) (v := ?_) rfl (by kernel_rfl) (by kernel_rfl) (by kernel_rfl) (fun _ _ _ h => h) (Or.inl ⟨by rfl, ?_⟩) (by with_reducible assumption) ?_
      rotate_left 1
      · intro w hSw
        (try dsimp only at hSw)
        simp only [Act5, Act4] at hSw
        go_split_ands
        go_simp
        try with_reducible rfl
      try simp only [List.getElem_toArray, List.getElem_cons_succ, List.getElem_cons_zero, Act.put, List.setIfInBounds_toArray, List.set_cons_zero, List.set_cons_succ]
      refine wpAnyH_take (i := 4) (v := ?_) rfl (by kernel_rfl) (by kernel_rfl) (by kernel_rfl) (fun _ _ _ h => h) (Or.inl ⟨by rfl, ?_⟩) (by with_reducible assumption) ?_
      rotate_left 1
      · intro w hSw
        (try dsimp only at hSw)
        simp only [Act5, Act4] at hSw
        go_split_ands
        go_simp
        try with_reducible rfl
      try simp only [List.getElem_toArray, List.getElem_cons_succ, List.getElem_cons_zero, Act.put, List.setIfInBounds_toArray, List.set_cons_zero, List.set_cons_succ]
      refine wpAnyH_ready (rs := [11]) (by kernel_rfl) (by simp) ?_
      refine AllReadyH.cons rfl (fun K hK => ?_) AllReadyH.nil
      go_simp
      refine hK.out _ _ (act5_step (below_new _ _) h5) (fun h6 => ?_)
      clear hK K
      refine wpAnyH_ready (rs := [12]) (by kernel_rfl) (by simp) ?_
      refine AllReadyH.cons rfl (fun K hK => ?_) AllReadyH.nil
      go_simp
      go_wp2_with (go_at_call 18; refine (spacedAct3 hI hP ?_ ?_ (Below.refl _ _)).mono ?_; (focus (first | rfl | (simp; done))); (focus (exact h6.1.2.2.2.2.2)); rintro e w4 ⟨rfl, hb4⟩)
      refine hK.out _ _ (act5_step hb4 h6) (fun h7 => ?_)
      clear hK K
      refine wpAnyH_take (i := 13) (v := ?_) rfl (by kernel_rfl) (by kernel_rfl) (by kernel_rfl) (fun _ _ _ h => h) (Or.inl ⟨by rfl, ?_⟩) (by with_reducible assumption) ?_
      rotate_left 1
      · intro w hSw
        (try dsimp only at hSw)
        simp only [Act5, Act4] at hSw
        go_split_ands
        go_simp
        try with_reducible rfl
      try simp only [List.getElem_toArray, List.getElem_cons_succ, List.getElem_cons_zero, Act.put, List.setIfInBounds_toArray, List.set_cons_zero, List.set_cons_succ]
      refine wpAnyH_take (i := 14) (v := ?_) rfl (by kernel_rfl) (by kernel_rfl) (by kernel_rfl) (fun _ _ _ h => h) (Or.inl ⟨by rfl, ?_⟩) (by with_reducible assumption) ?_
      rotate_left 1
      · intro w hSw
        (try dsimp only at hSw)
        simp only [Act5, Act4] at hSw
        go_split_ands
        go_simp
        try with_reducible rfl
      try simp only [List.getElem_toArray, List.getElem_cons_succ, List.getElem_cons_zero, Act.put, List.setIfInBounds_toArray, List.set_cons_zero, List.set_cons_succ]
      refine wpAnyH_done (by kernel_rfl) ?_ _
      go_wp2
      go_returns
      exact ⟨by simp [actV, hok, actL, hm], h7.1.2.2.2.2.2⟩
    · go_simp
      refine hK.out _ _ (led_step (below_new _ _) hHeld) (fun hHeld1 => ?_)
      clear hK K
      refine wpAnyH_ready (rs := [0]) (by kernel_rfl) (by simp) ?_
      refine AllReadyH.cons rfl (fun K hK => ?_) AllReadyH.nil
      go_simp
      go_wp2_with (go_at_call 23; refine (actNames j hj8 _).mono ?_; rintro e w' ⟨rfl, hb', hn', hlt'⟩; simp only [World.size_drew, World.size_alloc] at hn' hlt')
      refine hK.out _ _ (led_step hb' hHeld1) (fun hHeld2 => ?_)
      clear hK K
      refine sharpen (S' := Act5 w (j : Int) a b c (w2.heap.size + 1) j) (fun _ h => h.1) _ _ _ _ ?_
      have h5 : Act5 w (j : Int) a b c (w2.heap.size + 1) j w' := ⟨hHeld2, hn'⟩
      clear hHeld2 hn' hlt'
      refine wpAnyH_take (i := 3) (v := ?_) rfl (by kernel_rfl) (by kernel_rfl) (by kernel_rfl) (fun _ _ _ h => h) (Or.inl ⟨by rfl, ?_⟩) (by with_reducible assumption) ?_
      rotate_left 1
      · intro w hSw
        (try dsimp only at hSw)
        simp only [Act5, Act4] at hSw
        go_split_ands
        go_simp
        try with_reducible rfl
      try simp only [List.getElem_toArray, List.getElem_cons_succ, List.getElem_cons_zero, Act.put, List.setIfInBounds_toArray, List.set_cons_zero, List.set_cons_succ]
      refine wpAnyH_take (i := 4) (v := ?_) rfl (by kernel_rfl) (by kernel_rfl) (by kernel_rfl) (fun _ _ _ h => h) (Or.inl ⟨by rfl, ?_⟩) (by with_reducible assumption) ?_
      rotate_left 1
      · intro w hSw
        (try dsimp only at hSw)
        simp only [Act5, Act4] at hSw
        go_split_ands
        go_simp
        try with_reducible rfl
      try simp only [List.getElem_toArray, List.getElem_cons_succ, List.getElem_cons_zero, Act.put, List.setIfInBounds_toArray, List.set_cons_zero, List.set_cons_succ]
      refine wpAnyH_ready (rs := [12]) (by kernel_rfl) (by simp) ?_
      refine AllReadyH.cons rfl (fun K hK => ?_) AllReadyH.nil
      go_simp
      go_wp2_with (go_at_call 18; refine (spacedAct3 hI hP ?_ ?_ ((Below.refl _ _).drew.trans hb')).mono ?_; (focus (first | rfl | (simp; done))); (focus (exact h5.1.2.2.2.2.2)); rintro e w4 ⟨rfl, hb4⟩)
      refine hK.out _ _ (act5_step hb4 h5) (fun h7 => ?_)
      clear hK K
      refine wpAnyH_take (i := 13) (v := ?_) rfl (by kernel_rfl) (by kernel_rfl) (by kernel_rfl) (fun _ _ _ h => h) (Or.inl ⟨by rfl, ?_⟩) (by with_reducible assumption) ?_
      rotate_left 1
      · intro w hSw
        (try dsimp only at hSw)
        simp only [Act5, Act4] at hSw
        go_split_ands
        go_simp
        try with_reducible rfl
      try simp only [List.getElem_toArray, List.getElem_cons_succ, List.getElem_cons_zero, Act.put, List.setIfInBounds_toArray, List.set_cons_zero, List.set_cons_succ]
      refine wpAnyH_take (i := 14) (v := ?_) rfl (by kernel_rfl) (by kernel_rfl) (by kernel_rfl) (fun _ _ _ h => h) (Or.inl ⟨by rfl, ?_⟩) (by with_reducible assumption) ?_
      rotate_left 1
      · intro w hSw
        (try dsimp only at hSw)
        simp only [Act5, Act4] at hSw
        go_split_ands
        go_simp
        try with_reducible rfl
      try simp only [List.getElem_toArray, List.getElem_cons_succ, List.getElem_cons_zero, Act.put, List.setIfInBounds_toArray, List.set_cons_zero, List.set_cons_succ]
      refine wpAnyH_done (by kernel_rfl) ?_ _
      go_wp2
      go_returns
      exact ⟨by simp [actV, hok, actL, hm], h7.1.2.2.2.2.2⟩
end Go.Proofs.YthdiilcpelioaaaDoor

/- Lists of states: are all valid and on one mesh? By the program. Condition: as many elements as memory takes. -/
import Derived.Test.YthdiilcpelioaaaAsk
set_option linter.unusedVariables false
set_option linter.unusedSimpArgs false
namespace Go.Proofs.Ythdiilcpelioaaa
open Go.RowKit
set_option maxHeartbeats 4000000 in
theorem implOther (s : StateR) (p : At4) (A : Option Addr) (l : List StateR) (c g : Nat) (v : Bool) (w : World) (hs : RdS w s p) (hfs : s.fits) (hr : RdSS w A l) (hf : fitsAll l) (hl : l.length ≤ 1000000000000) (h0 : 0 < l.length) (hg : w.cell? ⟨g, 0, none⟩ = some (.slice A l.length c)) (h : alike s (l[0]'h0) = v) :
    Calls Try.prog 33 #[s.v p, .pointer (some ⟨g, 0, none⟩)] w fun e w' => e = .returned (.bool (!v)) ∧ Below w.heap.size w w' := by
  subst h
  have hst := fun (w : World) (h1 : RdS w s p) => implStateOk s p s.fine w h1 hfs rfl
  obtain ⟨b', o', p', rfl, hab', y0, y1, y2, y3, y4, y5⟩ := hr 0 h0
  simp only [Nat.zero_mul, Nat.add_zero] at y0 y1 y2 y3 y4
  have f0 := hf l[0] (List.getElem_mem h0)
  have hsm := fun (w : World) (c d : Nat) (h1 : RdId w p.A1 s.leaves) (h2 : RdId w p'.A1 (l[0]'h0).leaves) => implSameMesh s.roots (l[0]'h0).roots p.A1 p'.A1 s.leaves (l[0]'h0).leaves c d (sameMesh s.roots s.leaves (l[0]'h0).roots (l[0]'h0).leaves) w h1 h2 hfs.f1 f0.f1 rfl
  have hal := Lib.hid (show alike s (l[0]'h0) = (s.fine && sameMesh s.roots s.leaves (l[0]'h0).roots (l[0]'h0).leaves) from rfl)
  unfold StateR.v StateR.cs at hst ⊢
  go_enter Try.func33, Try.ntmps33
  have hb0 := below_new w (.cells #[.int .i64 s.roots, .slice p.A1 s.leaves.length p.c1, .slice p.A2 s.mass.length p.c2, .slice p.A3 s.tracer.length p.c3, .slice p.A4 s.bed.length p.c4] 33)
  have hK := Blk.new w 33 [.int .i64 s.roots, .slice p.A1 s.leaves.length p.c1, .slice p.A2 s.mass.length p.c2, .slice p.A3 s.tracer.length p.c3, .slice p.A4 s.bed.length p.c4]
  have hs' := hs.on hb0
  have y5' := y5.on hb0
  have z0 := hK.cell (i := 0) rfl
  have z1 := hK.cell (i := 1) rfl
  have z2 := hK.cell (i := 2) rfl
  have z3 := hK.cell (i := 3) rfl
  have z4 := hK.cell (i := 4) rfl
  have yy0 := cell_on hb0 y0
  have yy1 := cell_on hb0 y1
  have gg := cell_on hb0 hg
  go_wp2_with fail
  generalize w.alloc (.cells #[.int .i64 s.roots, .slice p.A1 s.leaves.length p.c1, .slice p.A2 s.mass.length p.c2, .slice p.A3 s.tracer.length p.c3, .slice p.A4 s.bed.length p.c4] 33) = W at hb0 hs' y5' z0 z1 z2 z3 z4 yy0 yy1 gg ⊢
  have Z0 := cell_regrown z0
  have Z1 := cell_regrown z1
  have Z2 := cell_regrown z2
  have Z3 := cell_regrown z3
  have Z4 := cell_regrown z4
  have Y0 := cell_regrown yy0
  have Y1 := cell_regrown yy1
  have G := cell_regrown gg
  have s5 : (0 : Int) < (l.length : Int) := by omega
  have X5 := Lib.hid hs'
  have Y5 := Lib.hid y5'
  clear z0 z1 z2 z3 z4 yy0 yy1 gg y0 y1 y2 y3 y4 y5 hg hs' y5' hK hs hr
  cases hfine : s.fine
  · rw [hfine] at hst
    have hn := Lib.hid (show alike s (l[0]'h0) = false by rw [hal.out, hfine]; rfl)
    refine wp_region_quiet_below (by kernel_rfl) (by kernel_rfl) ?_
    repeat (go_big_quiet_step ((go_at_call 34; exact Calls.regrown_of (hst _ (X5.out.on (below_regrown _ _ _))))))
    refine wpQuiet_nil ?_
    intro _ hw'
    obtain ⟨⟨dq, osq⟩, hw''⟩ := hw'
    subst hw''
    go_wp2
    go_ret
    exact ⟨by rw [hn.out]; rfl, hb0.trans ((below_regrown W dq osq).mono hb0.size)⟩
  · rw [hfine] at hst
    cases hsame : sameMesh s.roots s.leaves (l[0]'h0).roots (l[0]'h0).leaves
    all_goals
      rw [hsame] at hsm
      have hn := Lib.hid (show alike s (l[0]'h0) = _ by rw [hal.out, hfine, hsame])
      refine wp_region_quiet_below (by kernel_rfl) (by kernel_rfl) ?_
      repeat (go_big_quiet_step (first
        | (go_at_call 34; exact Calls.regrown_of (hst _ (X5.out.on (below_regrown _ _ _))))
        | (go_at_call 35; exact Calls.regrown_of (hsm _ _ _ (X5.out.on (below_regrown _ _ _)).h1 (Y5.out.on (below_regrown _ _ _)).h1))))
      refine wpQuiet_nil ?_
      intro _ hw'
      obtain ⟨⟨dq, osq⟩, hw''⟩ := hw'
      subst hw''
      go_wp2
      go_ret
      exact ⟨by rw [hn.out]; rfl, hb0.trans ((below_regrown W dq osq).mono hb0.size)⟩
def allAlike (l : List StateR) (h0 : 0 < l.length) : Bool := l.all fun s => alike s (l[0]'h0)
theorem allAlike_no {l : List StateR} {h0 : 0 < l.length} {k : Nat} (hk : k < l.length) (h : alike l[k] (l[0]'h0) = false) : allAlike l h0 = false := by
  unfold allAlike
  rw [List.all_eq_false]
  exact ⟨l[k], List.getElem_mem hk, by simp [h]⟩
theorem allAlike_yes {l : List StateR} {h0 : 0 < l.length} (h : ∀ i (hi : i < l.length), alike l[i] (l[0]'h0) = true) : allAlike l h0 = true := by
  unfold allAlike
  rw [List.all_eq_true]
  intro x hx
  obtain ⟨i, hi, rfl⟩ := List.getElem_of_mem hx
  exact h i hi
def SomeAtB (n : Nat) (v : Bool) (w : World) (e : Ending) (w' : World) : Prop := ∃ i : Int, e = .returned (.int .i64 i) ∧ (v = true ∧ i = -1 ∨ v = false ∧ 0 ≤ i ∧ i < n) ∧ Below w.heap.size w w'
set_option maxHeartbeats 2000000 in
theorem indexOther (A : Option Addr) (l : List StateR) (c c' g : Nat) (w : World) (hr : RdSS w A l) (hf : fitsAll l) (hl : l.length ≤ 1000000000000) (h0 : 0 < l.length) (hg : w.cell? ⟨g, 0, none⟩ = some (.slice A l.length c)) :
    Calls Try.prog 53 #[.slice A l.length c', .func (.func 33) #[] #[.pointer (some ⟨g, 0, none⟩)]] w (SomeAtB l.length (allAlike l h0) w) := by
  have hF := Lib.hid hf
  clear hf
  have hN := Lib.hid hl
  go_enter Try.func53, Try.ntmps53
  go_wp2
  go_loopw [8] (fun i wr => ∃ k : Nat, k ≤ l.length ∧ i = .int .i64 k ∧ Hid (∀ i (hi : i < l.length), i < k → alike l[i] (l[0]'h0) = true) ∧ Below w.heap.size w wr) (fun i _ => l.length - (intOf i).toNat)
  case atStart => exact ⟨0, Nat.zero_le _, rfl, Lib.hid (fun i h h' => by omega), Below.refl _ _⟩
  case round =>
    obtain ⟨k, hk, rfl, hall, hbr⟩ := hrel
    by_cases hlt : k < l.length
    · obtain ⟨b, o, p, heq, hab, x0, x1, x2, x3, x4, x5⟩ := (hr.on hbr) k hlt
      have gg := cell_on hbr hg
      have hr' := hr.on hbr
      subst heq
      have hcall := fun v (hv : alike l[k] (l[0]'h0) = v) => implOther l[k] p _ l c g v wr x5 (hF.out l[k] (List.getElem_mem hlt)) hr' hF.out hN.out h0 gg hv
      unfold StateR.v StateR.cs at hcall
      cases hb : alike l[k] (l[0]'h0)
      · have hcall := hcall _ hb
        have hres := Lib.hid (allAlike_no (h0 := h0) hlt hb)
        clear hb
        go_wp2_with (go_at_call 33; refine hcall.mono ?_; rintro e w1 ⟨rfl, hb1⟩)
        go_ret
        exact ⟨_, rfl, .inr ⟨hres.out, by omega, by omega⟩, hbr.trans (hb1.mono hbr.size)⟩
      · have hcall := hcall _ hb
        have hB := Lib.hid hb
        clear hb
        go_wp2_with (go_at_call 33; refine hcall.mono ?_; rintro e w1 ⟨rfl, hb1⟩)
        go_roundw
        case rel =>
          refine ⟨k + 1, by omega, by go_num, Lib.hid (fun i hi h' => ?_), hbr.trans (hb1.mono hbr.size)⟩
          by_cases hik : i < k
          · exact hall.out i hi hik
          · obtain rfl : i = k := by omega
            exact hB.out
        case measure => simp [intOf]; omega
    · have hres := Lib.hid (allAlike_yes (h0 := h0) (fun i hi => hall.out i hi (by omega)))
      go_wp2
      go_ret
      exact ⟨_, rfl, .inl ⟨hres.out, rfl⟩, hbr⟩
theorem containsOther (A : Option Addr) (l : List StateR) (c c' g : Nat) (v : Bool) (w : World) (hr : RdSS w A l) (hf : fitsAll l) (hl : l.length ≤ 1000000000000) (h0 : 0 < l.length) (hg : w.cell? ⟨g, 0, none⟩ = some (.slice A l.length c)) (h : allAlike l h0 = v) :
    Calls Try.prog 32 #[.slice A l.length c', .func (.func 33) #[] #[.pointer (some ⟨g, 0, none⟩)]] w fun e w' => e = .returned (.bool (!v)) ∧ Below w.heap.size w w' := by
  go_enter Try.func32, Try.ntmps32
  cases v
  · go_wp2_with (go_at_call 53; refine (indexOther A l c c' g _ hr hf hl h0 hg).mono ?_; rintro e w1 ⟨i, rfl, hi, hb1⟩; obtain ⟨h1, h2⟩ := someAt_false h hi)
    go_ret
    exact ⟨by first | (simp; done) | (simp; omega), hb1⟩
  · go_wp2_with (go_at_call 53; refine (indexOther A l c c' g _ hr hf hl h0 hg).mono ?_; rintro e w1 ⟨i, rfl, hi, hb1⟩; obtain rfl := someAt_true h hi)
    go_ret
    exact ⟨by simp, hb1⟩
theorem askOk_alike {l : List StateR} (hl : inR l.length 1 100 = true) (h0 : 0 < l.length) : askOk l = allAlike l h0 := by
  cases h : allAlike l h0
  · unfold allAlike at h
    rw [List.all_eq_false] at h
    obtain ⟨x, hx, hn⟩ := h
    obtain ⟨i, hi, rfl⟩ := List.getElem_of_mem hx
    exact askOk_no hi (by simpa using hn)
  · unfold allAlike at h
    rw [List.all_eq_true] at h
    exact askOk_yes hl (fun i hi => h _ (List.getElem_mem hi))
end Go.Proofs.Ythdiilcpelioaaa

/- Valid states, by the reference. Condition: as many elements as memory takes. -/
import Derived.Test.YthdiilcpelioaaaSt
set_option linter.unusedVariables false
set_option linter.unusedSimpArgs false
namespace Go.Proofs.Ythdiilcpelioaaa
open Go.RowKit
theorem bedOk_take {l : List Int} : bedOk l = true ↔ ∀ i (hi : i < l.length), inR l[i] 0 1000000 = true :=
  ⟨fun h i hi => List.all_eq_true.1 h _ (List.getElem_mem hi), bedOk_yes⟩
set_option maxHeartbeats 4000000 in
theorem specStateOk (s : StateR) (p : At4) (v : Bool) (w : World) (hr : RdS w s p) (hf : s.fits) (h : s.fine = v) :
    Calls Try.prog 67 #[s.v p] w fun e w' => e = .returned (.bool v) ∧ Below w.heap.size w w' := by
  subst h
  obtain ⟨roots, leaves, mass, tracer, bed⟩ := s
  obtain ⟨A1, c1, A2, c2, A3, c3, A4, c4⟩ := p
  unfold StateR.v StateR.cs StateR.fine
  obtain ⟨q1, q2, q3, q4⟩ := hr
  obtain ⟨f1, f2, f3, f4⟩ := hf
  dsimp only at q1 q2 q3 q4 f1 f2 f3 f4 ⊢
  go_enter Try.func67, Try.ntmps67
  have hb0 := below_new w (.cells #[.int .i64 roots, .slice A1 leaves.length c1, .slice A2 mass.length c2, .slice A3 tracer.length c3, .slice A4 bed.length c4] 33)
  have hK := Blk.new w 33 [.int .i64 roots, .slice A1 leaves.length c1, .slice A2 mass.length c2, .slice A3 tracer.length c3, .slice A4 bed.length c4]
  have r1 := q1.on hb0
  cases hb : balOk roots leaves
  · go_wp2_with (go_at_call 87; refine (specBalanced roots A1 leaves c1 _ _ r1 f1 hb).mono ?_; rintro e w1 ⟨rfl, hb1⟩)
    go_ret
    exact ⟨by simp, hb0.trans (hb1.mono hb0.size)⟩
  by_cases h1 : mass.length = leaves.length
  · by_cases h2 : tracer.length = leaves.length
    · by_cases h3 : (bed.length : Int) = roots
      · have e1 : ((mass.length : Int) != (leaves.length : Int)) = false := by simp [h1]
        have e2 : ((tracer.length : Int) != (mass.length : Int)) = false := by simp; omega
        have e3 : ((bed.length : Int) != roots) = false := by simp [h3]
        have hres : ∀ a b c, bedOk bed = a → cellsOk mass tracer = b → decide (sumW mass ≤ 10000000) = c → (true && (StateR.mk roots leaves mass tracer bed).has) = (a && (b && c)) := fun a b c ha hb hc => by simp only [StateR.has, h1, h2, h3, ha, hb, hc]; simp
        have hR := Lib.hid hres
        have hT := Lib.hid (show tracer.length = mass.length by omega)
        clear h1 h2 h3 hres
        go_wp2_with (go_at_call 87; refine (specBalanced roots A1 leaves c1 _ _ r1 f1 hb).mono ?_; rintro e w1 ⟨rfl, hb1⟩; have k1 := hK.on hb1; have n0 := k1.cell (i := 0) rfl; have n1 := k1.cell (i := 1) rfl; have n2 := k1.cell (i := 2) rfl; have n3 := k1.cell (i := 3) rfl; have n4 := k1.cell (i := 4) rfl; have hw1 := hb0.trans (hb1.mono hb0.size))
        go_loopw [3] (fun i wr => ∃ k : Nat, k ≤ mass.length ∧ i = .int .i64 k ∧ Hid (∀ i (hi : i < mass.length) (hj : i < tracer.length), i < k → cellOk mass[i] tracer[i] = true) ∧ Below w1.heap.size w1 wr) (fun i _ => mass.length - (intOf i).toNat)
        case atStart => exact ⟨0, Nat.zero_le _, rfl, Lib.hid (fun i h h' h'' => by omega), Below.refl _ _⟩
        case round =>
          obtain ⟨k, hk, rfl, hall, hbr⟩ := hrel
          have o2 := cell_on hbr n2
          have o3 := cell_on hbr n3
          have o4 := cell_on hbr n4
          have hwr := hw1.trans (hbr.mono hw1.size)
          by_cases hlt : k < mass.length
          · have hlt2 : k < tracer.length := by rw [hT.out]; exact hlt
            obtain ⟨b, o, rfl, hab, x0⟩ := (q2.on hwr) k hlt
            obtain ⟨b', o', rfl, hab', y0⟩ := (q3.on hwr) k hlt2
            have s4 : (0 : Int) ≤ (k : Int) := by omega
            have s6 : (k : Int) < (mass.length : Int) := by omega
            have s7 : (k : Int) < (tracer.length : Int) := by omega
            have hck := Lib.hid (show cellOk mass[k] tracer[k] = (inR mass[k] 0 10000000 && inR tracer[k] 0 (1000 * mass[k])) from rfl)
            have hno := Lib.hid (fun h => hR.out _ false _ rfl (cellsOk_no hlt hlt2 h) rfl)
            have hall2 := Lib.hid (fun (hc : cellOk mass[k] tracer[k] = true) => fun i (hi : i < mass.length) (hj : i < tracer.length) (h' : i < k + 1) => show cellOk mass[i] tracer[i] = true by
              by_cases hik : i < k
              · exact hall.out i hi hj hik
              · obtain rfl : i = k := by omega
                exact hc)
            generalize mass[k] = m at x0 hck hno hall2
            generalize tracer[k] = t at y0 hck hno hall2
            cases g1 : inR m 0 10000000
            · have hn := Lib.hid (hno.out (by rw [hck.out, g1]; rfl))
              go_wp2_with fail
              go_quiet ((go_at_call 66; exact Calls.quiet_of_same (l01In _ _ _ _ _ g1)))
              go_wp2
              go_ret
              exact ⟨by rw [hn.out]; simp, below_drewN hwr _⟩
            · have hm := inR_true.1 g1
              have ew : IntKind.i64.wrap (1000 * m) = 1000 * m := IntWalk.i64_in _ (by omega)
              cases g2 : inR t 0 (1000 * m)
              · have hn := Lib.hid (hno.out (by rw [hck.out, g1, g2]; rfl))
                go_wp2_with fail
                go_quiet (first
                  | (go_at_call 66; with_reducible exact Calls.quiet_of_same (l01In _ _ _ _ _ g1))
                  | (go_at_call 66; with_reducible exact Calls.quiet_of_same (l01In _ _ _ _ _ g2)))
                go_wp2
                go_ret
                exact ⟨by rw [hn.out]; simp, below_drewN hwr _⟩
              · go_wp2_with fail
                go_quiet (first
                  | (go_at_call 66; with_reducible exact Calls.quiet_of_same (l01In _ _ _ _ _ g1))
                  | (go_at_call 66; with_reducible exact Calls.quiet_of_same (l01In _ _ _ _ _ g2)))
                go_wp2
                go_roundw
                case rel => exact ⟨k + 1, by omega, by go_num, Lib.hid (hall2.out (by rw [hck.out, g1, g2]; rfl)), below_drewN hbr _⟩
                case measure => simp [intOf]; omega
          · have hyes := cellsOk_yes hT.out (fun i hi hj => hall.out i hi hj (by omega))
            have hY := Lib.hid (fun a (ha : bedOk bed = a) => hR.out a true _ ha hyes rfl)
            clear hyes
            go_wp2
            obtain ⟨wo, rfl⟩ : ∃ wo : World, wo = wr := ⟨_, rfl⟩
            go_loopw [4] (fun i wr => ∃ k : Nat, k ≤ bed.length ∧ i = .int .i64 k ∧ Hid (∀ i (hi : i < bed.length), i < k → inR bed[i] 0 1000000 = true) ∧ Below wo.heap.size wo wr) (fun i _ => bed.length - (intOf i).toNat)
            case atStart => exact ⟨0, Nat.zero_le _, rfl, Lib.hid (fun i h h' => by omega), Below.refl _ _⟩
            case round =>
              obtain ⟨j, hj, rfl, hall', hbj⟩ := hrel
              have u2 := cell_on hbj o2
              have u4 := cell_on hbj o4
              have hwj := hwr.trans (hbj.mono hwr.size)
              by_cases hjt : j < bed.length
              · obtain ⟨b, o, rfl, hab, x0⟩ := (q4.on hwj) j hjt
                cases g3 : inR bed[j] 0 1000000
                · have hn := Lib.hid (hY.out false (bedOk_no hjt g3))
                  go_wp2_with (go_at_call 66; (with_reducible refine (l01In _ _ _ _ _ g3).mono ?_); rintro e w2 ⟨rfl, rfl⟩)
                  go_ret
                  exact ⟨by rw [hn.out]; simp, hwj⟩
                · go_wp2_with (go_at_call 66; (with_reducible refine (l01In _ _ _ _ _ g3).mono ?_); rintro e w2 ⟨rfl, rfl⟩)
                  go_roundw
                  case rel =>
                    refine ⟨j + 1, by omega, by go_num, Lib.hid (fun i hi h' => ?_), hbj⟩
                    by_cases hik : i < j
                    · exact hall'.out i hi hik
                    · obtain rfl : i = j := by omega
                      exact g3
                  case measure => simp [intOf]; omega
              · have hn := Lib.hid (hY.out true (bedOk_yes (fun i hi => hall'.out i hi (by omega))))
                go_wp2_with (go_at_call 88; refine (specSum A2 mass c2 _ (q2.on hwj) f2).mono ?_; rintro e w2 ⟨rfl, rfl⟩)
                go_ret
                exact ⟨by rw [hn.out]; simp, hwj⟩
      · have e1 : ((mass.length : Int) != (leaves.length : Int)) = false := by simp [h1]
        have e2 : ((tracer.length : Int) != (mass.length : Int)) = false := by simp; omega
        have e3 : ((bed.length : Int) != roots) = true := by simpa using h3
        have hres := Lib.hid (show (StateR.mk roots leaves mass tracer bed).has = false by simp [StateR.has, h3])
        clear h1 h2 h3
        go_wp2_with (go_at_call 87; refine (specBalanced roots A1 leaves c1 _ _ r1 f1 hb).mono ?_; rintro e w1 ⟨rfl, hb1⟩; have k1 := hK.on hb1; have n0 := k1.cell (i := 0) rfl; have n1 := k1.cell (i := 1) rfl; have n2 := k1.cell (i := 2) rfl; have n3 := k1.cell (i := 3) rfl; have n4 := k1.cell (i := 4) rfl; have hw1 := hb0.trans (hb1.mono hb0.size))
        go_ret
        exact ⟨by rw [hres.out]; rfl, hw1⟩
    · have e1 : ((mass.length : Int) != (leaves.length : Int)) = false := by simp [h1]
      have e2 : ((tracer.length : Int) != (mass.length : Int)) = true := by simp; omega
      have hres := Lib.hid (show (StateR.mk roots leaves mass tracer bed).has = false by simp [StateR.has, h2])
      clear h1 h2
      go_wp2_with (go_at_call 87; refine (specBalanced roots A1 leaves c1 _ _ r1 f1 hb).mono ?_; rintro e w1 ⟨rfl, hb1⟩; have k1 := hK.on hb1; have n0 := k1.cell (i := 0) rfl; have n1 := k1.cell (i := 1) rfl; have n2 := k1.cell (i := 2) rfl; have n3 := k1.cell (i := 3) rfl; have n4 := k1.cell (i := 4) rfl; have hw1 := hb0.trans (hb1.mono hb0.size))
      go_ret
      exact ⟨by rw [hres.out]; rfl, hw1⟩
  · have e1 : ((mass.length : Int) != (leaves.length : Int)) = true := by simp; omega
    have hres := Lib.hid (show (StateR.mk roots leaves mass tracer bed).has = false by simp [StateR.has, h1])
    clear h1
    go_wp2_with (go_at_call 87; refine (specBalanced roots A1 leaves c1 _ _ r1 f1 hb).mono ?_; rintro e w1 ⟨rfl, hb1⟩; have k1 := hK.on hb1; have n0 := k1.cell (i := 0) rfl; have n1 := k1.cell (i := 1) rfl; have n2 := k1.cell (i := 2) rfl; have n3 := k1.cell (i := 3) rfl; have n4 := k1.cell (i := 4) rfl; have hw1 := hb0.trans (hb1.mono hb0.size))
    go_ret
    exact ⟨by rw [hres.out]; rfl, hw1⟩
end Go.Proofs.Ythdiilcpelioaaa

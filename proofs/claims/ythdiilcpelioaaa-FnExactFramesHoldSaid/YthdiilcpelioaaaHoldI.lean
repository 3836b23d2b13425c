/- The program's FramesHold. -/
import Derived.Test.YthdiilcpelioaaaHold
import Derived.Deep.DeepCutAuto
set_option linter.unusedVariables false
set_option linter.unusedSimpArgs false
namespace Go.Proofs.Ythdiilcpelioaaa
open Go.RowKit
def FrameR.cells (f : FrameR) (A1 : Option Addr) (c1 : Nat) (A2 : Option Addr) (c2 : Nat) : List Value := [.int .i64 f.step, .int .i64 f.roots, .slice A1 f.leaves.length c1, .int .i64 f.total, .int .i64 f.tracer, .int .i64 f.quantum, .slice A2 f.code.length c2]
theorem stepBad_eq (g f : FrameR) (l : LedR) : stepBad g f l = (decide (f.step ≤ g.step) || ((f.total != wrap64 (wrap64 (g.total + l.a) - l.b)) || (f.tracer != wrap64 (wrap64 (g.tracer + l.c) - l.d)))) := by simp only [stepBad, IntWalk.i64_left]
set_option maxHeartbeats 8000000 in
set_option maxRecDepth 100000 in
theorem implFramesHold (A B : Option Addr) (fs : List FrameR) (ls : List LedR) (c d : Nat) (w : World) (hf : RdF w A fs) (hl : RdL w B ls) (hn : fs.length ≤ 1000000000000) (hm : ls.length ≤ 1000000000000) (hleaf : ∀ f ∈ fs, f.leaves.length ≤ 1000000000000000) :
    Calls Try.prog 16 #[.slice A fs.length c, .slice B ls.length d] w fun e w' => e = .returned (.bool (framesOk fs ls)) ∧ Below w.heap.size w w' := by
  by_cases hlen : ls.length + 1 = fs.length
  · go_enter Try.func16, Try.ntmps16
    have e0 : IntKind.i64.wrap ((fs.length : Int) - 1) = (ls.length : Int) := by rw [IntWalk.i64_in _ (by omega)]; omega
    go_wp2
    go_loopw [19] (fun i wr => ∃ k : Nat, k ≤ fs.length ∧ i = .int .i64 k ∧ Hid (∀ i, i < k → okAt fs ls i = true) ∧ Below w.heap.size w wr) (fun i _ => fs.length - (intOf i).toNat)
    case atStart => exact ⟨0, Nat.zero_le _, rfl, Lib.hid (fun i h => by omega), Below.refl _ _⟩
    case round =>
      obtain ⟨k, hk, rfl, hall, hbr⟩ := hrel
      by_cases hlt : k < fs.length
      · obtain ⟨b, o, A1, c1, A2, c2, rfl, hab, x0, x1, x2, x3, x4, x5, x6, x7, x8⟩ := (hf.on hbr) k hlt
        have hlk := hleaf fs[k] (List.getElem_mem hlt)
        have s6 : (0 : Int) ≤ (k : Int) := by omega
        have s7 : (k : Int) < (fs.length : Int) := by omega
        have hB1 : Below w.heap.size w (wr.alloc (.cells (fs[k].cells A1 c1 A2 c2).toArray 75)) := hbr.alloc hbr.size _
        have hz : ∀ (w1 : World), Below wr.heap.size wr w1 → True := fun _ _ => trivial
        clear hz
        obtain ⟨z0, z3, z4⟩ : (wr.alloc (.cells (fs[k].cells A1 c1 A2 c2).toArray 75)).cell? ⟨wr.heap.size, 0, none⟩ = some (.int .i64 fs[k].step) ∧ (wr.alloc (.cells (fs[k].cells A1 c1 A2 c2).toArray 75)).cell? ⟨wr.heap.size, 3, none⟩ = some (.int .i64 fs[k].total) ∧ (wr.alloc (.cells (fs[k].cells A1 c1 A2 c2).toArray 75)).cell? ⟨wr.heap.size, 4, none⟩ = some (.int .i64 fs[k].tracer) := ⟨Lib.cell_of_heap (heap_alloc_new _ _) _, Lib.cell_of_heap (heap_alloc_new _ _) _, Lib.cell_of_heap (heap_alloc_new _ _) _⟩
        have x7' := x7.on (below_new wr (.cells (fs[k].cells A1 c1 A2 c2).toArray 75))
        have x8' := x8.on (below_new wr (.cells (fs[k].cells A1 c1 A2 c2).toArray 75))
        unfold FrameR.cells at hB1 z0 z3 z4 x7' x8'
        cases hfine : fs[k].fine
        · go_wp2_with (go_at_call 41; refine (implRead fs[k] A1 A2 c1 c2 _ x7' x8' hlk).mono ?_; rintro e w1 ⟨⟨u, rfl⟩, hb1⟩; rw [hfine])
          go_ret
          exact ⟨by rw [framesOk_no hlt (by rw [okAt, getD_at hlt, hfine]; rfl)]; rfl, hB1.trans (hb1.mono hB1.size)⟩
        by_cases hk0 : k = 0
        · subst hk0
          simp only [Nat.zero_mul, Nat.add_zero] at x0 x1 x2 x3 x4 x5 x6
          go_wp2_with (go_at_call 41; refine (implRead fs[0] A1 A2 c1 c2 _ x7' x8' hlk).mono ?_; rintro e w1 ⟨⟨u, rfl⟩, hb1⟩; rw [hfine])
          have hw1 := hB1.trans (hb1.mono hB1.size)
          go_roundw
          case rel =>
            refine ⟨1, by omega, by go_num, Lib.hid (fun i hi => ?_), hw1⟩
            obtain rfl : i = 0 := by omega
            rw [okAt, getD_at hlt, hfine]; rfl
          case measure => simp [intOf]; omega
        have hkp : 0 < k := by omega
        have hlt1 : k - 1 < fs.length := by omega
        have hlt2 : k - 1 < ls.length := by omega
        obtain ⟨b', o', A1', c1', A2', c2', heq, _, y0, y1, y2, y3, y4, y5, y6, _, _⟩ := (hf.on hbr) (k - 1) hlt1
        simp only [Option.some.injEq, Addr.mk.injEq, and_true] at heq
        obtain ⟨rfl, rfl⟩ := heq
        obtain ⟨b2, o2, rfl, _, l0, l1, l2, l3⟩ := (hl.on hbr) (k - 1) hlt2
        have hok : okAt fs ls k = !stepBad fs[k - 1] fs[k] ls[k - 1] := by
          rw [okAt, getD_at hlt, getD_at hlt1, getD_at hlt2, hfine]; simp [hk0]
        have hO := Lib.hid hok
        clear hok
        generalize fs[k - 1] = g at y0 y1 y2 y3 y4 y5 y6 hO
        generalize ls[k - 1] = l at l0 l1 l2 l3 hO
        have s0 : IntKind.i64.wrap ((k : Int) - 1) = (k : Int) - 1 := IntWalk.i64_in _ (by omega)
        have s1 : ((k : Int) - 1).toNat = k - 1 := by omega
        have s2 : (0 : Int) ≤ (k : Int) - 1 := by omega
        have s3 : (k : Int) - 1 < (fs.length : Int) := by omega
        have s4 : (k : Int) - 1 < (ls.length : Int) := by omega
        have r1 : (1 : Int) ≤ (k : Int) := by omega
        have r2 : 1 ≤ k := by omega
        have r3 : (k : Int) < (fs.length : Int) + 1 := by omega
        have r4 : k < fs.length + 1 := by omega
        have r5 : (k : Int) < (ls.length : Int) + 1 := by omega
        have r6 : k < ls.length + 1 := by omega
        have s5 : ((k : Int) == 0) = false := by simp; omega
        have nb := below_new wr (.cells #[.int .i64 fs[k].step, .int .i64 fs[k].roots, .slice A1 fs[k].leaves.length c1, .int .i64 fs[k].total, .int .i64 fs[k].tracer, .int .i64 fs[k].quantum, .slice A2 fs[k].code.length c2] 75)
        go_upto_region 10 with (go_at_call 41; refine (implRead fs[k] A1 A2 c1 c2 _ x7' x8' hlk).mono ?_; rintro e w1 ⟨⟨u, rfl⟩, hb1⟩; rw [hfine]; have hn1 := nb.trans (hb1.mono nb.size); have Z0 := cell_on hb1 z0; have Z3 := cell_on hb1 z3; have Z4 := cell_on hb1 z4; have Y0 := cell_on hn1 y0; have Y1 := cell_on hn1 y1; have Y2 := cell_on hn1 y2; have Y3 := cell_on hn1 y3; have Y4 := cell_on hn1 y4; have Y5 := cell_on hn1 y5; have Y6 := cell_on hn1 y6; have L0 := cell_on hn1 l0; have L1 := cell_on hn1 l1; have L2 := cell_on hn1 l2; have L3 := cell_on hn1 l3; have hbB := hB1.trans (hb1.mono hB1.size); clear y0 y1 y2 y3 y4 y5 y6 l0 l1 l2 l3 z0 z3 z4)
        go_cut [9, 10] (fun s9 s10 wx => ∃ g9 g10 : Nat, s9 = .pointer (some ⟨g9, 0, none⟩) ∧ s10 = .pointer (some ⟨g10, 0, none⟩) ∧ wx.cell? ⟨g9, 0, none⟩ = some (.int .i64 g.step) ∧ wx.cell? ⟨g9, 3, none⟩ = some (.int .i64 g.total) ∧ wx.cell? ⟨g9, 4, none⟩ = some (.int .i64 g.tracer) ∧ wx.cell? ⟨g10, 0, none⟩ = some (.int .i64 l.a) ∧ wx.cell? ⟨g10, 1, none⟩ = some (.int .i64 l.b) ∧ wx.cell? ⟨g10, 2, none⟩ = some (.int .i64 l.c) ∧ wx.cell? ⟨g10, 3, none⟩ = some (.int .i64 l.d) ∧ Below w1.heap.size w1 wx)
        case first =>
          go_region_held3 (fun w' => w'.cell? ⟨b, o + (k - 1) * 7, none⟩ = some (.int .i64 g.step) ∧ w'.cell? ⟨b, o + (k - 1) * 7 + 1, none⟩ = some (.int .i64 g.roots) ∧ w'.cell? ⟨b, o + (k - 1) * 7 + 2, none⟩ = some (.slice A1' g.leaves.length c1') ∧ w'.cell? ⟨b, o + (k - 1) * 7 + 3, none⟩ = some (.int .i64 g.total) ∧ w'.cell? ⟨b, o + (k - 1) * 7 + 4, none⟩ = some (.int .i64 g.tracer) ∧ w'.cell? ⟨b, o + (k - 1) * 7 + 5, none⟩ = some (.int .i64 g.quantum) ∧ w'.cell? ⟨b, o + (k - 1) * 7 + 6, none⟩ = some (.slice A2' g.code.length c2') ∧ w'.cell? ⟨b2, o2 + (k - 1) * 4, none⟩ = some (.int .i64 l.a) ∧ w'.cell? ⟨b2, o2 + (k - 1) * 4 + 1, none⟩ = some (.int .i64 l.b) ∧ w'.cell? ⟨b2, o2 + (k - 1) * 4 + 2, none⟩ = some (.int .i64 l.c) ∧ w'.cell? ⟨b2, o2 + (k - 1) * 4 + 3, none⟩ = some (.int .i64 l.d)) (go_keep) (fail)
          all_goals
            go_wp2_with fail
            go_meet
            exact ⟨_, _, rfl, rfl, by simp [World.cell?_alloc_new], by simp [World.cell?_alloc_new], by simp [World.cell?_alloc_new], by simp [World.cell?_alloc_new], by simp [World.cell?_alloc_new], by simp [World.cell?_alloc_new], by simp [World.cell?_alloc_new], by go_grown⟩
        case rest =>
          obtain ⟨g9, g10, rfl, rfl, G0, G3, G4, H0, H1, H2, H3, hbx⟩ := hcut
          have X0 := cell_on hbx Z0
          have X3 := cell_on hbx Z3
          have X4 := cell_on hbx Z4
          have hwn := hbB.trans (hbx.mono hbB.size)
          cases b1 : decide (fs[k].step ≤ g.step)
          · cases b2 : (fs[k].total != wrap64 (wrap64 (g.total + l.a) - l.b))
            · cases b3 : (fs[k].tracer != wrap64 (wrap64 (g.tracer + l.c) - l.d))
              · go_wp2
                go_roundw
                case rel =>
                  refine ⟨k + 1, by omega, by go_num, Lib.hid (fun i hi => ?_), hwn⟩
                  by_cases hik : i < k
                  · exact hall.out i hik
                  · obtain rfl : i = k := by omega
                    rw [hO.out, stepBad_eq, b1, b2, b3]; rfl
                case measure => simp [intOf]; omega
              · have hres := Lib.hid (framesOk_no hlt (by rw [hO.out, stepBad_eq, b3]; simp))
                go_wp2
                go_ret
                exact ⟨by rw [hres.out]; rfl, hwn⟩
            · have hres := Lib.hid (framesOk_no hlt (by rw [hO.out, stepBad_eq, b2]; simp))
              go_wp2
              go_ret
              exact ⟨by rw [hres.out]; rfl, hwn⟩
          · have hres := Lib.hid (framesOk_no hlt (by rw [hO.out, stepBad_eq, b1]; simp))
            go_wp2
            go_ret
            exact ⟨by rw [hres.out]; rfl, hwn⟩
      · have hkn : k = fs.length := by omega
        have hall' := hall.out
        rw [hkn] at hall'
        have hres := Lib.hid (framesOk_yes hlen hall')
        clear hall'
        go_wp2
        go_ret
        exact ⟨by rw [hres.out]; rfl, hbr⟩
  · go_enter Try.func16, Try.ntmps16
    have e0 : IntKind.i64.wrap ((fs.length : Int) - 1) = (fs.length : Int) - 1 := IntWalk.i64_in _ (by omega)
    have e1 : ((ls.length : Int) != (fs.length : Int) - 1) = true := by simp; omega
    go_wp2
    go_ret
    exact ⟨by simp [framesOk, hlen], Below.refl _ _⟩
end Go.Proofs.Ythdiilcpelioaaa

/- The reference's FramesHold. -/
import Derived.Test.YthdiilcpelioaaaHoldI
set_option linter.unusedVariables false
set_option linter.unusedSimpArgs false
namespace Go.Proofs.Ythdiilcpelioaaa
open Go.RowKit
set_option maxHeartbeats 8000000 in
set_option maxRecDepth 100000 in
theorem specFramesHold (A B : Option Addr) (fs : List FrameR) (ls : List LedR) (c d : Nat) (w : World) (hf : RdF w A fs) (hl : RdL w B ls) (hn : fs.length ≤ 1000000000000) (hm : ls.length ≤ 1000000000000) (hleaf : ∀ f ∈ fs, f.leaves.length ≤ 1000000000000000) :
    Calls Try.prog 13 #[.slice A fs.length c, .slice B ls.length d] w fun e w' => e = .returned (.bool (framesOk fs ls)) ∧ Below w.heap.size w w' := by
  by_cases hlen : ls.length + 1 = fs.length
  · go_enter Try.func13, Try.ntmps13
    have e0 : IntKind.i64.wrap ((ls.length : Int) + 1) = (fs.length : Int) := by rw [IntWalk.i64_in _ (by omega)]; omega
    go_wp2
    go_loopw [5] (fun i wr => ∃ k : Nat, k ≤ fs.length ∧ i = .int .i64 k ∧ Hid (∀ i, i < k → okAt fs ls i = true) ∧ Below w.heap.size w wr) (fun i _ => fs.length - (intOf i).toNat)
    case atStart => exact ⟨0, Nat.zero_le _, rfl, Lib.hid (fun i h => by omega), Below.refl _ _⟩
    case round =>
      obtain ⟨k, hk, rfl, hall, hbr⟩ := hrel
      by_cases hlt : k < fs.length
      · obtain ⟨b, o, A1, c1, A2, c2, rfl, hab, x0, x1, x2, x3, x4, x5, x6, x7, x8⟩ := (hf.on hbr) k hlt
        have hlk := hleaf fs[k] (List.getElem_mem hlt)
        cases hfine : fs[k].fine
        · go_wp2_with (go_at_call 38; refine (specRead fs[k] A1 A2 c1 c2 _ x7 x8 hlk).mono ?_; rintro e w1 ⟨⟨u, rfl⟩, hb1⟩; rw [hfine])
          go_ret
          exact ⟨by rw [framesOk_no hlt (by rw [okAt, getD_at hlt, hfine]; rfl)]; rfl, hbr.trans (hb1.mono hbr.size)⟩
        by_cases hk0 : k = 0
        · subst hk0
          simp only [Nat.zero_mul, Nat.add_zero] at x0 x1 x2 x3 x4 x5 x6
          go_wp2_with (go_at_call 38; refine (specRead fs[0] A1 A2 c1 c2 _ x7 x8 hlk).mono ?_; rintro e w1 ⟨⟨u, rfl⟩, hb1⟩; rw [hfine])
          have hw1 := hbr.trans (hb1.mono hbr.size)
          go_roundw
          case rel =>
            refine ⟨1, by omega, by go_num, Lib.hid (fun i hi => ?_), hw1⟩
            obtain rfl : i = 0 := by omega
            rw [okAt, getD_at hlt, hfine]; rfl
          case measure => simp [intOf]; omega
        have hkp : 0 < k := by omega
        have hlt1 : k - 1 < fs.length := by omega
        have hlt2 : k - 1 < ls.length := by omega
        obtain ⟨b', o', A1', c1', A2', c2', heq, q1, y0, q2, q3, y3, y4, q4, q5, q6, q7⟩ := (hf.on hbr) (k - 1) hlt1
        clear q1 q2 q3 q4 q5 q6 q7
        simp only [Option.some.injEq, Addr.mk.injEq, and_true] at heq
        obtain ⟨rfl, rfl⟩ := heq
        obtain ⟨b2, o2, rfl, q8, l0, l1, l2, l3⟩ := (hl.on hbr) (k - 1) hlt2
        clear q8
        have hok : okAt fs ls k = !stepBad fs[k - 1] fs[k] ls[k - 1] := by
          rw [okAt, getD_at hlt, getD_at hlt1, getD_at hlt2, hfine]; simp [hk0]
        have hO := Lib.hid hok
        clear hok
        generalize hG : fs[k - 1] = g at y0 y3 y4 hO
        generalize hL : ls[k - 1] = l at l0 l1 l2 l3 hO
        clear hG hL
        have s0 : IntKind.i64.wrap ((k : Int) - 1) = (k : Int) - 1 := IntWalk.i64_in _ (by omega)
        have s1 : ((k : Int) - 1).toNat = k - 1 := by omega
        have s2 : (0 : Int) ≤ (k : Int) - 1 := by omega
        have s3 : (k : Int) - 1 < (fs.length : Int) := by omega
        have s4 : (k : Int) - 1 < (ls.length : Int) := by omega
        have r1 : (1 : Int) ≤ (k : Int) := by omega
        have r2 : 1 ≤ k := by omega
        have r3 : (k : Int) < (fs.length : Int) + 1 := by omega
        have r4 : k < fs.length + 1 := by omega
        have s5 : ((k : Int) == 0) = false := by simp; omega
        have s6 : (0 : Int) ≤ (k : Int) := by omega
        have s7 : (k : Int) < (fs.length : Int) := by omega
        go_upto_region 11 with (go_at_call 38; refine (specRead fs[k] A1 A2 c1 c2 _ x7 x8 hlk).mono ?_; rintro e w1 ⟨⟨u, rfl⟩, hb1⟩; rw [hfine]; have X0 := cell_on hb1 x0; have X3 := cell_on hb1 x3; have X4 := cell_on hb1 x4; have Y0 := cell_on hb1 y0; have Y3 := cell_on hb1 y3; have Y4 := cell_on hb1 y4; have L0 := cell_on hb1 l0; have L1 := cell_on hb1 l1; have L2 := cell_on hb1 l2; have L3 := cell_on hb1 l3; clear x0 x3 x4 y0 y3 y4 l0 l1 l2 l3)
        have hwn : Below w.heap.size w (w1.alloc (.cells #[.int .i64 l.a, .int .i64 l.b, .int .i64 l.c, .int .i64 l.d] 77)) := (hbr.trans (hb1.mono hbr.size)).alloc (Nat.le_trans hbr.size hb1.size) _
        have nb := below_new w1 (.cells #[.int .i64 l.a, .int .i64 l.b, .int .i64 l.c, .int .i64 l.d] 77)
        have Z0 := cell_on nb X0
        have Z3 := cell_on nb X3
        have Z4 := cell_on nb X4
        have V0 := cell_on nb Y0
        have V3 := cell_on nb Y3
        have V4 := cell_on nb Y4
        have Q0 : (w1.alloc (.cells #[.int .i64 l.a, .int .i64 l.b, .int .i64 l.c, .int .i64 l.d] 77)).cell? ⟨w1.heap.size, 0, none⟩ = some (.int .i64 l.a) := Lib.cell_of_heap (heap_alloc_new w1 _) _
        have Q1 : (w1.alloc (.cells #[.int .i64 l.a, .int .i64 l.b, .int .i64 l.c, .int .i64 l.d] 77)).cell? ⟨w1.heap.size, 1, none⟩ = some (.int .i64 l.b) := Lib.cell_of_heap (heap_alloc_new w1 _) _
        have Q2 : (w1.alloc (.cells #[.int .i64 l.a, .int .i64 l.b, .int .i64 l.c, .int .i64 l.d] 77)).cell? ⟨w1.heap.size, 2, none⟩ = some (.int .i64 l.c) := Lib.cell_of_heap (heap_alloc_new w1 _) _
        have Q3 : (w1.alloc (.cells #[.int .i64 l.a, .int .i64 l.b, .int .i64 l.c, .int .i64 l.d] 77)).cell? ⟨w1.heap.size, 3, none⟩ = some (.int .i64 l.d) := Lib.cell_of_heap (heap_alloc_new w1 _) _
        generalize w1.alloc (.cells #[.int .i64 l.a, .int .i64 l.b, .int .i64 l.c, .int .i64 l.d] 77) = W2 at Z0 Z3 Z4 V0 V3 V4 Q0 Q1 Q2 Q3 hwn ⊢
        have hN := Lib.hid hn
        have hM := Lib.hid hm
        have hB := Lib.hid hbr
        have hLen := Lib.hid hlen
        have hLt := Lib.hid hlt
        have hE0 := Lib.hid e0
        clear nb X0 X3 X4 Y0 Y3 Y4 L0 L1 L2 L3 x1 x2 x5 x6 x7 x8 hb1 hlk hn hm hbr hlen hf hl hab hkp hlt1 hlt2 hk0 hleaf e0 hfine
        go_cut [89] (fun s wx => s = .bool (stepBad g fs[k] l) ∧ Below w.heap.size w wx)
        case first =>
          have hwd := hwn.drew
          have hS := Lib.hid (show stepBad g fs[k] l = (decide (fs[k].step ≤ g.step) || ((fs[k].total != IntKind.i64.wrap (IntKind.i64.wrap (g.total + l.a) - l.b)) || (fs[k].tracer != IntKind.i64.wrap (IntKind.i64.wrap (g.tracer + l.c) - l.d)))) from rfl)
          generalize g.step = g0 at V0 hS ⊢
          generalize g.total = g1 at V3 hS ⊢
          generalize g.tracer = g2 at V4 hS ⊢
          generalize fs[k].step = f0 at Z0 hS ⊢
          generalize fs[k].total = f1 at Z3 hS ⊢
          generalize fs[k].tracer = f2 at Z4 hS ⊢
          generalize l.a = e1 at Q0 hS ⊢
          generalize l.b = e2 at Q1 hS ⊢
          generalize l.c = e3 at Q2 hS ⊢
          generalize l.d = e4 at Q3 hS ⊢
          cases b1 : decide (f0 ≤ g0)
          · cases b2 : (f1 != IntKind.i64.wrap (IntKind.i64.wrap (g1 + e1) - e2))
            · cases b3 : (f2 != IntKind.i64.wrap (IntKind.i64.wrap (g2 + e3) - e4))
              all_goals
                have hs := Lib.hid (show stepBad g fs[k] l = _ by rw [hS.out, b1, b2, b3])
                have c2 := b2
                have c3 := b3
                simp only [IntWalk.i64_left] at c2 c3
                go_quiet (fail)
                go_wp2
                go_meet
                exact ⟨by rw [hs.out]; rfl, below_drewN hwn _⟩
            · have hs := Lib.hid (show stepBad g fs[k] l = true by rw [hS.out, b2]; simp)
              have c2 := b2
              simp only [IntWalk.i64_left] at c2
              go_quiet (fail)
              go_wp2
              go_meet
              exact ⟨by rw [hs.out], below_drewN hwn _⟩
          · have hs := Lib.hid (show stepBad g fs[k] l = true by rw [hS.out, b1]; simp)
            go_quiet (fail)
            go_wp2
            go_meet
            exact ⟨by rw [hs.out], below_drewN hwn _⟩
        case rest =>
          obtain ⟨rfl, hwx⟩ := hcut
          have hlt := hLt.out
          have hn := hN.out
          cases hs : stepBad g fs[k] l
          · have hS := Lib.hid hs
            clear hs
            go_wp2
            go_roundw
            case rel =>
              refine ⟨k + 1, hLt.out, by go_num, Lib.hid (fun i hi => ?_), hwx⟩
              by_cases hik : i < k
              · exact hall.out i hik
              · obtain rfl : i = k := Nat.le_antisymm (Nat.lt_succ_iff.1 hi) (Nat.not_lt.1 hik)
                rw [hO.out, hS.out]; rfl
            case measure => simp [intOf]; exact Nat.sub_lt_sub_left hLt.out (Nat.lt_succ_self _)
          · have hres := Lib.hid (framesOk_no hLt.out (by rw [hO.out, hs]; rfl))
            clear hs
            go_wp2
            go_ret
            exact ⟨by rw [hres.out]; rfl, hwx⟩
      · have hkn : k = fs.length := by omega
        have hall' := hall.out
        rw [hkn] at hall'
        have hres := Lib.hid (framesOk_yes hlen hall')
        clear hall'
        go_wp2
        go_ret
        exact ⟨by rw [hres.out]; rfl, hbr⟩
  · go_enter Try.func13, Try.ntmps13
    have e0 : IntKind.i64.wrap ((ls.length : Int) + 1) = (ls.length : Int) + 1 := IntWalk.i64_in _ (by omega)
    have e1 : ((ls.length : Int) + 1 != (fs.length : Int)) = true := by simp; omega
    go_wp2
    go_ret
    exact ⟨by simp [framesOk, hlen], Below.refl _ _⟩
end Go.Proofs.Ythdiilcpelioaaa

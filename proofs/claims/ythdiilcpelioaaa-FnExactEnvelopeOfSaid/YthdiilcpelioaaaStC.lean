/- States: the copies that the laws make, and the comparisons of equal ones. Condition: as many elements as memory takes. -/
import Derived.Test.YthdiilcpelioaaaFrms
import Derived.Test.YthdiilcpelioaaaEqs
import Derived.Test.YthdiilcpelioaaaSzS
set_option linter.unusedVariables false
set_option linter.unusedSimpArgs false
namespace Go.Proofs.Ythdiilcpelioaaa
open Go.RowKit
/-- As many elements as memory takes, by bytes. -/
structure StateR.light (s : StateR) : Prop where
  l1 : s.leaves.length * 24 ≤ 140737488355328
  l2 : s.mass.length * 8 ≤ 140737488355328
  l3 : s.tracer.length * 8 ≤ 140737488355328
  l4 : s.bed.length * 8 ≤ 140737488355328
theorem StateR.light.fits {s : StateR} (h : s.light) : s.fits := ⟨by have := h.l1; omega, by have := h.l2; omega, by have := h.l3; omega, by have := h.l4; omega⟩
def StateR.own (s : StateR) (g1 g2 g3 g4 : Nat) : List Value := [.int .i64 s.roots, own0 g1 s.leaves.length, own0 g2 s.mass.length, own0 g3 s.tracer.length, own0 g4 s.bed.length]
set_option maxRecDepth 100000 in
set_option maxHeartbeats 2000000 in
theorem toState (s : StateR) (p : At4) (w : World) (hr : RdS w s p) (hf : s.light) :
    Calls Try.prog 46 #[s.v p] w fun e w' => ∃ g1 g2 g3 g4, e = .returned (.agg (s.own g1 g2 g3 g4).toArray) ∧ (w.heap.size ≤ g1 ∧ w.heap.size ≤ g2 ∧ w.heap.size ≤ g3 ∧ w.heap.size ≤ g4) ∧
      Blk w' g1 101 (s.leaves.map IdR.enc).flatten ∧ Blk w' g2 3 (s.mass.map intEnc).flatten ∧ Blk w' g3 3 (s.tracer.map intEnc).flatten ∧ Blk w' g4 3 (s.bed.map intEnc).flatten ∧ Below w.heap.size w w' := by
  obtain ⟨roots, leaves, mass, tracer, bed⟩ := s
  obtain ⟨A1, c1, A2, c2, A3, c3, A4, c4⟩ := p
  unfold StateR.v StateR.cs StateR.own
  obtain ⟨q1, q2, q3, q4⟩ := hr
  obtain ⟨f1, f2, f3, f4⟩ := hf
  dsimp only at q1 q2 q3 q4 f1 f2 f3 f4 ⊢
  have F1 := Lib.hid f1
  have F2 := Lib.hid f2
  have F3 := Lib.hid f3
  have F4 := Lib.hid f4
  clear f1 f2 f3 f4
  go_enter Try.func46, Try.ntmps46
  obtain ⟨hK2, hK1, hK0, hsz, hb0⟩ := blk3 w 85 33 33 [.int .i64 roots, .slice A1 leaves.length c1, .slice A2 mass.length c2, .slice A3 tracer.length c3, .slice A4 bed.length c4] [.int .i64 0, .slice none 0 0, .slice none 0 0, .slice none 0 0, .slice none 0 0] [.int .i64 0, .slice none 0 0, .slice none 0 0, .slice none 0 0, .slice none 0 0]
  have r1 := q1.on hb0
  have hSZ := Lib.hid hsz
  clear hsz
  generalize hW : ((w.alloc (.cells [.int .i64 roots, .slice A1 leaves.length c1, .slice A2 mass.length c2, .slice A3 tracer.length c3, .slice A4 bed.length c4].toArray 85)).alloc (.cells [.int .i64 0, .slice none 0 0, .slice none 0 0, .slice none 0 0, .slice none 0 0].toArray 33)).alloc (.cells [.int .i64 0, .slice none 0 0, .slice none 0 0, .slice none 0 0, .slice none 0 0].toArray 33) = W at hb0 r1 hK0 hK1 hK2 hSZ
  have hWH := Lib.hid hW
  clear hW
  go_wp2_with (first
    | (go_at_call 61; rw [hWH.out]; refine (toMesh roots A1 leaves c1 _ r1 F1.out).mono ?_; rintro e w1 ⟨g1, rfl, hg1, hB1, hb1⟩; have kA := hK0.on hb1; have kB := hK1.on hb1; have kC := hK2.on hb1; have c0 := kA.cell (i := 0) rfl; have c1 := kA.cell (i := 1) rfl; have c2 := kA.cell (i := 2) rfl; have c3 := kA.cell (i := 3) rfl; have c4 := kA.cell (i := 4) rfl; have cf0 := kA.frozen 0; have cf1 := kA.frozen 1; have d2 := kC.cell (i := 2) rfl; unfold own0)
    | (go_at_call 62; (fail_if_success (have := tokA)); change Calls _ _ _ (World.setCells w1 (w.heap.size + 1 + 1) 0 [.int .i64 roots, .slice (some ⟨g1, 0, none⟩) leaves.length leaves.length]) _; have kA2 := Blk.sets [.int .i64 roots, .slice (some ⟨g1, 0, none⟩) leaves.length leaves.length] 0 kA; have kB2 := kB.others (g' := w.heap.size + 1 + 1) (by omega) [.int .i64 roots, .slice (some ⟨g1, 0, none⟩) leaves.length leaves.length] 0; have kC2 := kC.others (g' := w.heap.size + 1 + 1) (by omega) [.int .i64 roots, .slice (some ⟨g1, 0, none⟩) leaves.length leaves.length] 0; have hG1 := Lib.hid (show w.heap.size + 1 + 1 < g1 by have := hSZ.out; omega); have hB12 := hB1.others (g' := w.heap.size + 1 + 1) (by have := hG1.out; omega) [.int .i64 roots, .slice (some ⟨g1, 0, none⟩) leaves.length leaves.length] 0; have hw1 := hb0.trans (hb1.mono hb0.size); have hw2 := below_sets (g := w.heap.size + 1 + 1) (by omega) [.int .i64 roots, .slice (some ⟨g1, 0, none⟩) leaves.length leaves.length] 0 hw1; have r2 := q2.on hw2; clear c0 c1 c2 c3 c4 cf0 cf1 d2; generalize World.setCells w1 (w.heap.size + 1 + 1) 0 [.int .i64 roots, .slice (some ⟨g1, 0, none⟩) leaves.length leaves.length] = W1 at kA2 kB2 kC2 hB12 hw2 r2; refine (toIntS A2 mass _ _ r2 F2.out).mono ?_; rintro e w2 ⟨g2, rfl, hg2, hB2, hb2⟩; have tokA : True := trivial; have kA3 := kA2.on hb2; have kB3 := kB2.on hb2; have kC3 := kC2.on hb2; have hB13 := hB12.on hb2; have hG2 := Lib.hid (show w.heap.size + 1 + 1 < g2 by have := kA2.lt; omega); have c0 := kA3.cell (i := 0) rfl; have c1 := kA3.cell (i := 1) rfl; have c2 := kA3.cell (i := 2) rfl; have c3 := kA3.cell (i := 3) rfl; have c4 := kA3.cell (i := 4) rfl; have cf2 := kA3.frozen 2; have d3 := kC3.cell (i := 3) rfl; unfold own0)
    | (go_at_call 62; (fail_if_success (have := tokB)); change Calls _ _ _ (World.setCells w2 (w.heap.size + 1 + 1) 2 [.slice (some ⟨g2, 0, none⟩) mass.length mass.length]) _; have kA4 := Blk.sets [.slice (some ⟨g2, 0, none⟩) mass.length mass.length] 2 kA3; have kB4 := kB3.others (g' := w.heap.size + 1 + 1) (by omega) [.slice (some ⟨g2, 0, none⟩) mass.length mass.length] 2; have kC4 := kC3.others (g' := w.heap.size + 1 + 1) (by omega) [.slice (some ⟨g2, 0, none⟩) mass.length mass.length] 2; have hB14 := hB13.others (g' := w.heap.size + 1 + 1) (by have := hG1.out; omega) [.slice (some ⟨g2, 0, none⟩) mass.length mass.length] 2; have hB22 := hB2.others (g' := w.heap.size + 1 + 1) (by have := hG2.out; omega) [.slice (some ⟨g2, 0, none⟩) mass.length mass.length] 2; have hw3 := below_sets (g := w.heap.size + 1 + 1) (by omega) [.slice (some ⟨g2, 0, none⟩) mass.length mass.length] 2 (hw2.trans (hb2.mono hw2.size)); have r3 := q3.on hw3; clear c0 c1 c2 c3 c4 cf2 d3; generalize World.setCells w2 (w.heap.size + 1 + 1) 2 [.slice (some ⟨g2, 0, none⟩) mass.length mass.length] = W2 at kA4 kB4 kC4 hB14 hB22 hw3 r3; refine (toIntS A3 tracer _ _ r3 F3.out).mono ?_; rintro e w3 ⟨g3, rfl, hg3, hB3, hb3⟩; have tokB : True := trivial; have kA5 := kA4.on hb3; have kB5 := kB4.on hb3; have kC5 := kC4.on hb3; have hB15 := hB14.on hb3; have hB23 := hB22.on hb3; have hG3 := Lib.hid (show w.heap.size + 1 + 1 < g3 by have := kA4.lt; omega); have c0 := kA5.cell (i := 0) rfl; have c1 := kA5.cell (i := 1) rfl; have c2 := kA5.cell (i := 2) rfl; have c3 := kA5.cell (i := 3) rfl; have c4 := kA5.cell (i := 4) rfl; have cf3 := kA5.frozen 3; have d4 := kC5.cell (i := 4) rfl; unfold own0)
    | (go_at_call 62; change Calls _ _ _ (World.setCells w3 (w.heap.size + 1 + 1) 3 [.slice (some ⟨g3, 0, none⟩) tracer.length tracer.length]) _; have kA6 := Blk.sets [.slice (some ⟨g3, 0, none⟩) tracer.length tracer.length] 3 kA5; have kB6 := kB5.others (g' := w.heap.size + 1 + 1) (by omega) [.slice (some ⟨g3, 0, none⟩) tracer.length tracer.length] 3; have hB16 := hB15.others (g' := w.heap.size + 1 + 1) (by have := hG1.out; omega) [.slice (some ⟨g3, 0, none⟩) tracer.length tracer.length] 3; have hB24 := hB23.others (g' := w.heap.size + 1 + 1) (by have := hG2.out; omega) [.slice (some ⟨g3, 0, none⟩) tracer.length tracer.length] 3; have hB32 := hB3.others (g' := w.heap.size + 1 + 1) (by have := hG3.out; omega) [.slice (some ⟨g3, 0, none⟩) tracer.length tracer.length] 3; have hw4 := below_sets (g := w.heap.size + 1 + 1) (by omega) [.slice (some ⟨g3, 0, none⟩) tracer.length tracer.length] 3 (hw3.trans (hb3.mono hw3.size)); have r4 := q4.on hw4; clear c0 c1 c2 c3 c4 cf3 d4; generalize World.setCells w3 (w.heap.size + 1 + 1) 3 [.slice (some ⟨g3, 0, none⟩) tracer.length tracer.length] = W3 at kA6 kB6 hB16 hB24 hB32 hw4 r4; refine (toIntS A4 bed _ _ r4 F4.out).mono ?_; rintro e w4 ⟨g4, rfl, hg4, hB4, hb4⟩; have kA7 := kA6.on hb4; have kB7 := kB6.on hb4; have hB17 := hB16.on hb4; have hB25 := hB24.on hb4; have hB33 := hB32.on hb4; have hG4 := Lib.hid (show w.heap.size + 1 + 1 < g4 by have := kA6.lt; omega); have c0 := kA7.cell (i := 0) rfl; have c1 := kA7.cell (i := 1) rfl; have c2 := kA7.cell (i := 2) rfl; have c3 := kA7.cell (i := 3) rfl; have c4 := kA7.cell (i := 4) rfl; have cf4 := kA7.frozen 4; have r0 := kB7.cell (i := 0) rfl; have r1 := kB7.cell (i := 1) rfl; have r2 := kB7.cell (i := 2) rfl; have r3 := kB7.cell (i := 3) rfl; have r4 := kB7.cell (i := 4) rfl; have rf0 := kB7.frozen 0; have rf1 := kB7.frozen 1; have rf2 := kB7.frozen 2; have rf3 := kB7.frozen 3; have rf4 := kB7.frozen 4; unfold own0))
  change bodyPost _ _ _ _ _ (World.setCells (w4.setCell ⟨w.heap.size + 1 + 1, 4, none⟩ (.slice (some ⟨g4, 0, none⟩) bed.length bed.length)) (w.heap.size + 1) 0 [.int .i64 roots, .slice (some ⟨g1, 0, none⟩) leaves.length leaves.length, .slice (some ⟨g2, 0, none⟩) mass.length mass.length, .slice (some ⟨g3, 0, none⟩) tracer.length tracer.length, .slice (some ⟨g4, 0, none⟩) bed.length bed.length])
  have hE := Blk.sets [.int .i64 roots, .slice (some ⟨g1, 0, none⟩) leaves.length leaves.length, .slice (some ⟨g2, 0, none⟩) mass.length mass.length, .slice (some ⟨g3, 0, none⟩) tracer.length tracer.length, .slice (some ⟨g4, 0, none⟩) bed.length bed.length] 0 (kB7.other (g' := w.heap.size + 1 + 1) (by omega) 4 (.slice (some ⟨g4, 0, none⟩) bed.length bed.length))
  have e1 := ((hB17.other (g' := w.heap.size + 1 + 1) (by have := hG1.out; omega) 4 (.slice (some ⟨g4, 0, none⟩) bed.length bed.length)).others (g' := w.heap.size + 1) (by have := hG1.out; omega) [.int .i64 roots, .slice (some ⟨g1, 0, none⟩) leaves.length leaves.length, .slice (some ⟨g2, 0, none⟩) mass.length mass.length, .slice (some ⟨g3, 0, none⟩) tracer.length tracer.length, .slice (some ⟨g4, 0, none⟩) bed.length bed.length] 0)
  have e2 := ((hB25.other (g' := w.heap.size + 1 + 1) (by have := hG2.out; omega) 4 (.slice (some ⟨g4, 0, none⟩) bed.length bed.length)).others (g' := w.heap.size + 1) (by have := hG2.out; omega) [.int .i64 roots, .slice (some ⟨g1, 0, none⟩) leaves.length leaves.length, .slice (some ⟨g2, 0, none⟩) mass.length mass.length, .slice (some ⟨g3, 0, none⟩) tracer.length tracer.length, .slice (some ⟨g4, 0, none⟩) bed.length bed.length] 0)
  have e3 := ((hB33.other (g' := w.heap.size + 1 + 1) (by have := hG3.out; omega) 4 (.slice (some ⟨g4, 0, none⟩) bed.length bed.length)).others (g' := w.heap.size + 1) (by have := hG3.out; omega) [.int .i64 roots, .slice (some ⟨g1, 0, none⟩) leaves.length leaves.length, .slice (some ⟨g2, 0, none⟩) mass.length mass.length, .slice (some ⟨g3, 0, none⟩) tracer.length tracer.length, .slice (some ⟨g4, 0, none⟩) bed.length bed.length] 0)
  have e4 := ((hB4.other (g' := w.heap.size + 1 + 1) (by have := hG4.out; omega) 4 (.slice (some ⟨g4, 0, none⟩) bed.length bed.length)).others (g' := w.heap.size + 1) (by have := hG4.out; omega) [.int .i64 roots, .slice (some ⟨g1, 0, none⟩) leaves.length leaves.length, .slice (some ⟨g2, 0, none⟩) mass.length mass.length, .slice (some ⟨g3, 0, none⟩) tracer.length tracer.length, .slice (some ⟨g4, 0, none⟩) bed.length bed.length] 0)
  have hwf := below_sets (g := w.heap.size + 1) (by omega) [.int .i64 roots, .slice (some ⟨g1, 0, none⟩) leaves.length leaves.length, .slice (some ⟨g2, 0, none⟩) mass.length mass.length, .slice (some ⟨g3, 0, none⟩) tracer.length tracer.length, .slice (some ⟨g4, 0, none⟩) bed.length bed.length] 0 ((hw4.trans (hb4.mono hw4.size)).setCell (p := ⟨w.heap.size + 1 + 1, 4, none⟩) (by simp; omega) (.slice (some ⟨g4, 0, none⟩) bed.length bed.length))
  have hg1' := hG1.out
  have hg2' := hG2.out
  have hg3' := hG3.out
  have hg4' := hG4.out
  clear c0 c1 c2 c3 c4 cf4 r0 r1 r2 r3 r4 rf0 rf1 rf2 rf3 rf4
  generalize (World.setCells (w4.setCell ⟨w.heap.size + 1 + 1, 4, none⟩ (.slice (some ⟨g4, 0, none⟩) bed.length bed.length)) (w.heap.size + 1) 0 [.int .i64 roots, .slice (some ⟨g1, 0, none⟩) leaves.length leaves.length, .slice (some ⟨g2, 0, none⟩) mass.length mass.length, .slice (some ⟨g3, 0, none⟩) tracer.length tracer.length, .slice (some ⟨g4, 0, none⟩) bed.length bed.length]) = Wf at hE e1 e2 e3 e4 hwf ⊢
  have n0 := hE.cell (i := 0) rfl
  have n1 := hE.cell (i := 1) rfl
  have n2 := hE.cell (i := 2) rfl
  have n3 := hE.cell (i := 3) rfl
  have n4 := hE.cell (i := 4) rfl
  exact bodyPost_ret (v := .agg #[.int .i64 roots, .slice (some ⟨g1, 0, none⟩) leaves.length leaves.length, .slice (some ⟨g2, 0, none⟩) mass.length mass.length, .slice (some ⟨g3, 0, none⟩) tracer.length tracer.length, .slice (some ⟨g4, 0, none⟩) bed.length bed.length]) (by simp [results, Try.results46, go_sem, n0, n1, n2, n3, n4]) rfl ⟨g1, g2, g3, g4, rfl, ⟨by omega, by omega, by omega, by omega⟩, e1, e2, e3, e4, hwf⟩
end Go.Proofs.Ythdiilcpelioaaa

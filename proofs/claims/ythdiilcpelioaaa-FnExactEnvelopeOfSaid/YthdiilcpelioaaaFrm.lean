/- Frames: the copies that the laws make, and the comparisons of equal ones. Condition: as many elements as memory takes. -/
import Derived.Test.YthdiilcpelioaaaSz
set_option linter.unusedVariables false
set_option linter.unusedSimpArgs false
namespace Go.Proofs.Ythdiilcpelioaaa
open Go.RowKit
theorem toMesh (roots : Int) (A : Option Addr) (l : List IdR) (c : Nat) (w : World) (hr : RdId w A l) (hl : l.length * 24 ≤ 140737488355328) :
    Calls Try.prog 61 #[.agg #[.int .i64 roots, .slice A l.length c]] w fun e w' => ∃ g, e = .returned (.agg #[.int .i64 roots, own0 g l.length]) ∧ w.heap.size ≤ g ∧ Blk w' g 101 (l.map IdR.enc).flatten ∧ Below w.heap.size w w' := by
  go_enter Try.func61, Try.ntmps61
  have hb0 : Below w.heap.size w (((w.alloc (.cells #[.int .i64 roots, .slice A l.length c] 69)).alloc (.cells #[.int .i64 0, .slice none 0 0] 31)).alloc (.cells #[.int .i64 roots, .slice none 0 0] 31)) := by go_grown
  have hr' := hr.on hb0
  have hK : Blk (((w.alloc (.cells #[.int .i64 roots, .slice A l.length c] 69)).alloc (.cells #[.int .i64 0, .slice none 0 0] 31)).alloc (.cells #[.int .i64 roots, .slice none 0 0] 31)) (w.heap.size + 2) 31 [.int .i64 roots, .slice none 0 0] := by
    have := Blk.new ((w.alloc (.cells #[.int .i64 roots, .slice A l.length c] 69)).alloc (.cells #[.int .i64 0, .slice none 0 0] 31)) 31 [.int .i64 roots, .slice none 0 0]
    simpa using this
  have hK2 : Blk (((w.alloc (.cells #[.int .i64 roots, .slice A l.length c] 69)).alloc (.cells #[.int .i64 0, .slice none 0 0] 31)).alloc (.cells #[.int .i64 roots, .slice none 0 0] 31)) (w.heap.size + 1) 31 [.int .i64 0, .slice none 0 0] := by
    have := (Blk.new (w.alloc (.cells #[.int .i64 roots, .slice A l.length c] 69)) 31 [.int .i64 0, .slice none 0 0]).on (below_new _ (.cells #[.int .i64 roots, .slice none 0 0] 31))
    simpa using this
  have hsz : w.heap.size + 3 = (((w.alloc (.cells #[.int .i64 roots, .slice A l.length c] 69)).alloc (.cells #[.int .i64 0, .slice none 0 0] 31)).alloc (.cells #[.int .i64 roots, .slice none 0 0] 31)).heap.size := by simp
  have hSZ := Lib.hid hsz
  clear hsz
  go_wp2_with (go_at_call 80; refine (toIdS A l c _ hr' hl).mono ?_; rintro e w1 ⟨g, rfl, hg, hB, hb1⟩; have c0 := (hK.on hb1).cell (i := 0) rfl; have c1 := (hK.on hb1).cell (i := 1) rfl; have f0 := (hK.on hb1).frozen 0; have f1 := (hK.on hb1).frozen 1; have d0 := (hK2.on hb1).cell (i := 0) rfl; have d1 := (hK2.on hb1).cell (i := 1) rfl; have g0 := (hK2.on hb1).frozen 0; have g1 := (hK2.on hb1).frozen 1; have hw1 := Lib.hid (hb0.trans (hb1.mono hb0.size)); unfold own0)
  have hg' : w.heap.size + 3 ≤ g := by rw [hSZ.out]; exact hg
  have hE := ((((hK2.on hb1).other (g' := w.heap.size + 1 + 1) (by omega) 1 (.slice (some ⟨g, 0, none⟩) l.length l.length)).set 0 (.int .i64 roots)).set 1 (.slice (some ⟨g, 0, none⟩) l.length l.length))
  have e0 := hE.cell (i := 0) rfl
  have e1 := hE.cell (i := 1) rfl
  have hBf := ((hB.other (g' := w.heap.size + 1 + 1) (by omega) 1 (.slice (some ⟨g, 0, none⟩) l.length l.length)).other (g' := w.heap.size + 1) (by omega) 0 (.int .i64 roots)).other (g' := w.heap.size + 1) (by omega) 1 (.slice (some ⟨g, 0, none⟩) l.length l.length)
  have hwf := ((hw1.out.setCell (p := ⟨w.heap.size + 1 + 1, 1, none⟩) (by simp; omega) (.slice (some ⟨g, 0, none⟩) l.length l.length)).setCell (p := ⟨w.heap.size + 1, 0, none⟩) (by simp) (.int .i64 roots)).setCell (p := ⟨w.heap.size + 1, 1, none⟩) (by simp) (.slice (some ⟨g, 0, none⟩) l.length l.length)
  have hGg : w.heap.size ≤ g := by omega
  clear c0 c1 f0 f1 d0 d1 g0 g1 hE hw1 hB hSZ hg hg'
  generalize (((w1.setCell ⟨w.heap.size + 1 + 1, 1, none⟩ (.slice (some ⟨g, 0, none⟩) l.length l.length)).setCell ⟨w.heap.size + 1, 0, none⟩ (.int .i64 roots)).setCell ⟨w.heap.size + 1, 1, none⟩ (.slice (some ⟨g, 0, none⟩) l.length l.length)) = Wf at e0 e1 hBf hwf ⊢
  exact bodyPost_ret (v := .agg #[.int .i64 roots, .slice (some ⟨g, 0, none⟩) l.length l.length]) (by simp [results, Try.results61, go_sem, e0, e1]) rfl ⟨g, rfl, hGg, hBf, hwf⟩
set_option maxHeartbeats 1000000 in
theorem toFrame (f : FrameR) (A1 A2 : Option Addr) (c1 c2 : Nat) (w : World) (h1 : RdId w A1 f.leaves) (h2 : RdI w A2 f.code) (hl1 : f.leaves.length * 24 ≤ 140737488355328) (hl2 : f.code.length * 8 ≤ 140737488355328) :
    Calls Try.prog 39 #[f.v A1 c1 A2 c2] w fun e w' => ∃ g h, e = .returned (f.v (some ⟨g, 0, none⟩) f.leaves.length (some ⟨h, 0, none⟩) f.code.length) ∧ w.heap.size ≤ g ∧ w.heap.size ≤ h ∧ Blk w' g 101 (f.leaves.map IdR.enc).flatten ∧ Blk w' h 3 (f.code.map intEnc).flatten ∧ Below w.heap.size w w' := by
  obtain ⟨step, roots, leaves, total, tracer, quantum, code⟩ := f
  unfold FrameR.v
  dsimp only at h1 h2 hl1 hl2 ⊢
  go_enter Try.func39, Try.ntmps39
  obtain ⟨hK2, hK1, hK0, hsz, hb0⟩ := blk3 w 71 75 75 [.int .i64 step, .int .i64 roots, .slice A1 leaves.length c1, .int .i64 total, .int .i64 tracer, .int .i64 quantum, .slice A2 code.length c2] [.int .i64 0, .int .i64 0, .slice none 0 0, .int .i64 0, .int .i64 0, .int .i64 0, .slice none 0 0] [.int .i64 step, .int .i64 0, .slice none 0 0, .int .i64 0, .int .i64 0, .int .i64 0, .slice none 0 0]
  have h1' := h1.on hb0
  have h2' := h2.on hb0
  have hSZ := Lib.hid hsz
  clear hsz
  generalize hW : ((w.alloc (.cells #[.int .i64 step, .int .i64 roots, .slice A1 leaves.length c1, .int .i64 total, .int .i64 tracer, .int .i64 quantum, .slice A2 code.length c2] 71)).alloc (.cells #[.int .i64 0, .int .i64 0, .slice none 0 0, .int .i64 0, .int .i64 0, .int .i64 0, .slice none 0 0] 75)).alloc (.cells #[.int .i64 step, .int .i64 0, .slice none 0 0, .int .i64 0, .int .i64 0, .int .i64 0, .slice none 0 0] 75) = W at hb0 h1' h2' hK0 hK1 hK2 hSZ
  have hWH := Lib.hid hW
  clear hW
  go_wp2_with (first
    | (go_at_call 61; rw [hWH.out]; refine (toMesh roots A1 leaves c1 _ h1' hl1).mono ?_; rintro e w1 ⟨g, rfl, hg, hB, hb1⟩; have kA := hK0.on hb1; have kB := hK1.on hb1; have kC := hK2.on hb1; have c0 := kA.cell (i := 0) rfl; have c1 := kA.cell (i := 1) rfl; have c2 := kA.cell (i := 2) rfl; have c3 := kA.cell (i := 3) rfl; have c4 := kA.cell (i := 4) rfl; have c5 := kA.cell (i := 5) rfl; have c6 := kA.cell (i := 6) rfl; have cf1 := kA.frozen 1; have cf2 := kA.frozen 2; have cf3 := kA.frozen 3; have cf4 := kA.frozen 4; have cf5 := kA.frozen 5; have p3 := kC.cell (i := 3) rfl; have p4 := kC.cell (i := 4) rfl; have p5 := kC.cell (i := 5) rfl; have p6 := kC.cell (i := 6) rfl; unfold own0)
    | (go_at_call 62; change Calls _ _ _ (World.setCells w1 (w.heap.size + 1 + 1) 1 [.int .i64 roots, .slice (some ⟨g, 0, none⟩) leaves.length leaves.length, .int .i64 total, .int .i64 tracer, .int .i64 quantum]) _; have kA2 := Blk.sets [.int .i64 roots, .slice (some ⟨g, 0, none⟩) leaves.length leaves.length, .int .i64 total, .int .i64 tracer, .int .i64 quantum] 1 kA; have kB2 := kB.others (g' := w.heap.size + 1 + 1) (by omega) [.int .i64 roots, .slice (some ⟨g, 0, none⟩) leaves.length leaves.length, .int .i64 total, .int .i64 tracer, .int .i64 quantum] 1; have hB2 := hB.others (g' := w.heap.size + 1 + 1) (by have := hSZ.out; omega) [.int .i64 roots, .slice (some ⟨g, 0, none⟩) leaves.length leaves.length, .int .i64 total, .int .i64 tracer, .int .i64 quantum] 1; have hw1 := hb0.trans (hb1.mono hb0.size); have hw2 := below_sets (g := w.heap.size + 1 + 1) (by omega) [.int .i64 roots, .slice (some ⟨g, 0, none⟩) leaves.length leaves.length, .int .i64 total, .int .i64 tracer, .int .i64 quantum] 1 hw1; have h2'' := h2.on hw2; generalize World.setCells w1 (w.heap.size + 1 + 1) 1 [.int .i64 roots, .slice (some ⟨g, 0, none⟩) leaves.length leaves.length, .int .i64 total, .int .i64 tracer, .int .i64 quantum] = W1 at kA2 kB2 hB2 hw2 h2''; refine (toIntS A2 code _ _ h2'' hl2).mono ?_; rintro e w2 ⟨h, rfl, hh, hB3, hb2⟩; clear c0 c1 c2 c3 c4 c5 c6 cf1 cf2 cf3 cf4 cf5 p3 p4 p5 p6; have kA3 := kA2.on hb2; have kB3 := kB2.on hb2; have q0 := kA3.cell (i := 0) rfl; have q1 := kA3.cell (i := 1) rfl; have q2 := kA3.cell (i := 2) rfl; have q3 := kA3.cell (i := 3) rfl; have q4 := kA3.cell (i := 4) rfl; have q5 := kA3.cell (i := 5) rfl; have q6 := kA3.cell (i := 6) rfl; have qf6 := kA3.frozen 6; have r0 := kB3.cell (i := 0) rfl; have r1 := kB3.cell (i := 1) rfl; have r2 := kB3.cell (i := 2) rfl; have r3 := kB3.cell (i := 3) rfl; have r4 := kB3.cell (i := 4) rfl; have r5 := kB3.cell (i := 5) rfl; have r6 := kB3.cell (i := 6) rfl; have rf0 := kB3.frozen 0; have rf1 := kB3.frozen 1; have rf2 := kB3.frozen 2; have rf3 := kB3.frozen 3; have rf4 := kB3.frozen 4; have rf5 := kB3.frozen 5; have rf6 := kB3.frozen 6; unfold own0))
  change bodyPost _ _ _ _ _ (World.setCells (w2.setCell ⟨w.heap.size + 1 + 1, 6, none⟩ (.slice (some ⟨h, 0, none⟩) code.length code.length)) (w.heap.size + 1) 0 [.int .i64 step, .int .i64 roots, .slice (some ⟨g, 0, none⟩) leaves.length leaves.length, .int .i64 total, .int .i64 tracer, .int .i64 quantum, .slice (some ⟨h, 0, none⟩) code.length code.length])
  have hsz := hSZ.out
  have hE := Blk.sets [.int .i64 step, .int .i64 roots, .slice (some ⟨g, 0, none⟩) leaves.length leaves.length, .int .i64 total, .int .i64 tracer, .int .i64 quantum, .slice (some ⟨h, 0, none⟩) code.length code.length] 0 (kB3.other (g' := w.heap.size + 1 + 1) (by omega) 6 (.slice (some ⟨h, 0, none⟩) code.length code.length))
  have hgl : w.heap.size + 1 + 1 < g := by omega
  have hW1 : w.heap.size + 1 + 1 < w2.heap.size := by have := hb2.size; have := kA2.lt; omega
  have hhl : w.heap.size + 1 + 1 < h := by have := kA2.lt; omega
  have hBg := ((hB2.on hb2).other (g' := w.heap.size + 1 + 1) (by omega) 6 (.slice (some ⟨h, 0, none⟩) code.length code.length)).others (g' := w.heap.size + 1) (by omega) [.int .i64 step, .int .i64 roots, .slice (some ⟨g, 0, none⟩) leaves.length leaves.length, .int .i64 total, .int .i64 tracer, .int .i64 quantum, .slice (some ⟨h, 0, none⟩) code.length code.length] 0
  have hBh := (hB3.other (g' := w.heap.size + 1 + 1) (by omega) 6 (.slice (some ⟨h, 0, none⟩) code.length code.length)).others (g' := w.heap.size + 1) (by omega) [.int .i64 step, .int .i64 roots, .slice (some ⟨g, 0, none⟩) leaves.length leaves.length, .int .i64 total, .int .i64 tracer, .int .i64 quantum, .slice (some ⟨h, 0, none⟩) code.length code.length] 0
  have hw3 := hw2.trans (hb2.mono hw2.size)
  have hwf := below_sets (g := w.heap.size + 1) (by omega) [.int .i64 step, .int .i64 roots, .slice (some ⟨g, 0, none⟩) leaves.length leaves.length, .int .i64 total, .int .i64 tracer, .int .i64 quantum, .slice (some ⟨h, 0, none⟩) code.length code.length] 0 (hw3.setCell (p := ⟨w.heap.size + 1 + 1, 6, none⟩) (by simp; omega) (.slice (some ⟨h, 0, none⟩) code.length code.length))
  generalize (World.setCells (w2.setCell ⟨w.heap.size + 1 + 1, 6, none⟩ (.slice (some ⟨h, 0, none⟩) code.length code.length)) (w.heap.size + 1) 0 [.int .i64 step, .int .i64 roots, .slice (some ⟨g, 0, none⟩) leaves.length leaves.length, .int .i64 total, .int .i64 tracer, .int .i64 quantum, .slice (some ⟨h, 0, none⟩) code.length code.length]) = Wf at hE hBg hBh hwf ⊢
  have e0 := hE.cell (i := 0) rfl
  have e1 := hE.cell (i := 1) rfl
  have e2 := hE.cell (i := 2) rfl
  have e3 := hE.cell (i := 3) rfl
  have e4 := hE.cell (i := 4) rfl
  have e5 := hE.cell (i := 5) rfl
  have e6 := hE.cell (i := 6) rfl
  exact bodyPost_ret (v := .agg #[.int .i64 step, .int .i64 roots, .slice (some ⟨g, 0, none⟩) leaves.length leaves.length, .int .i64 total, .int .i64 tracer, .int .i64 quantum, .slice (some ⟨h, 0, none⟩) code.length code.length]) (by simp [results, Try.results39, go_sem, e0, e1, e2, e3, e4, e5, e6]) rfl ⟨g, h, rfl, by omega, by omega, hBg, hBh, hwf⟩
end Go.Proofs.Ythdiilcpelioaaa

/- FnExactFramesHold: it returns true. Condition: the arguments' slices are no longer than memory takes. -/
import Derived.Test.YthdiilcpelioaaaEqs
import Derived.Test.YthdiilcpelioaaaHoldS
set_option linter.unusedVariables false
set_option linter.unusedSimpArgs false
namespace Go.Proofs.Ythdiilcpelioaaa
open Go.RowKit
theorem szFs_in (left : Int) (l : List FrameR) (h0 : 0 ≤ left) : szFs left l = -1 ∨ (0 ≤ szFs left l ∧ szFs left l ≤ left) := by
  unfold szFs
  have h1 := sz1_in (left := left) (n := l.length)
  by_cases h : sz1 left l.length < 0
  · rw [if_pos h]; exact .inl rfl
  · rw [if_neg h]
    by_cases h2 : szAll szFr (sz1 left l.length) l < 0
    · have := szAll_stop szFr (m := []) (show 0 ≤ sz1 left l.length by omega) h2
      rw [List.append_nil] at this
      exact .inl this
    · have := (szAll_le (B := fun left f => (f.leaves.length : Int) ≤ left ∧ (f.code.length : Int) ≤ left) szFr_in (fun a b x h hb => by omega) (l := l) (left := sz1 left l.length) (by omega) (by omega)).1
      exact .inr ⟨by omega, by omega⟩
theorem szFs_len {left : Int} {l : List FrameR} (h : 0 ≤ szFs left l) : (l.length : Int) ≤ left := by
  unfold szFs at h
  have h1 := sz1_in (left := left) (n := l.length)
  by_cases h2 : sz1 left l.length < 0
  · rw [if_pos h2] at h; omega
  · omega
theorem rdL_of {w : World} {g : Nat} {e : TypeId} {l : List LedR} (h : Blk w g e (l.map LedR.enc).flatten) : RdL w (some ⟨g, 0, none⟩) l := by
  rw [← List.append_nil (List.map LedR.enc _).flatten] at h
  exact h.rdL
set_option maxHeartbeats 4000000 in
set_option maxRecDepth 100000 in
theorem holdLaw (A B : Option Addr) (l : List FrameR) (ls : List LedR) (c d : Nat) (w : World) (hA : RdF w A l) (hB : RdL w B ls) (hl : fits l) (hm : ls.length * 32 ≤ 140737488355328) :
    Calls Try.prog 4 #[.slice A l.length c, .slice B ls.length d] w fun e w' => e = .returned (.bool true) ∧ Below w.heap.size w w' := by
  have hn2 : l.length ≤ 1000000000000000 := by have := hl.1; omega
  have hlf : ∀ f ∈ l, f.leaves.length ≤ 1000000000000000 ∧ f.code.length ≤ 1000000000000000 := fun f hf => by have := hl.2 f hf; omega
  have hlf2 : ∀ f ∈ l, f.leaves.length ≤ 1000000000000000 := fun f hf => (hlf f hf).1
  have hm2 : ls.length ≤ 1000000000000000 := by omega
  have hm3 : ls.length ≤ 10000000000000 := by omega
  have hin := szFs_in 1048576 l (by omega)
  generalize hr : szFs 1048576 l = r at hin
  have hR := Lib.hid hr
  have HL := Lib.hid hl
  have HM := Lib.hid hm
  have HN2 := Lib.hid hn2
  have HF := Lib.hid hlf
  have HF2 := Lib.hid hlf2
  have HM2 := Lib.hid hm2
  have HM3 := Lib.hid hm3
  clear hr hl hm hn2 hlf hlf2 hm2 hm3
  go_enter Try.func4, Try.ntmps4
  rcases hin with h1 | ⟨h1, h2⟩
  · have hd : decide (r < 0) = true := decide_eq_true (by omega)
    subst h1
    go_wp2_with (go_at_call 11; refine (szFrameS A l c _ _ _ hA HN2.out HF.out (by omega) (by omega) hR.out).mono ?_; rintro e w1 ⟨rfl, hb1⟩)
    go_ret
    exact ⟨rfl, hb1⟩
  have hd : decide (r < 0) = false := decide_eq_false (by omega)
  have hin2 := sz1_in (left := r) (n := ls.length)
  generalize hr2 : sz1 r ls.length = r2 at hin2
  have hR2 := Lib.hid hr2
  clear hr2
  rcases hin2 with h3 | ⟨h3, h4, h5⟩
  · have hd2 : decide (r2 < 0) = true := decide_eq_true (by omega)
    subst h3
    go_wp2_with (first
      | (go_at_call 11; refine (szFrameS A l c _ _ _ hA HN2.out HF.out (by omega) (by omega) hR.out).mono ?_; rintro e w1 ⟨rfl, hb1⟩)
      | (go_at_call 12; refine (szLedgerS B _ d _ _ _ HM2.out h2 h1 hR2.out).mono ?_; rintro e w2 ⟨rfl, rfl⟩))
    go_ret
    exact ⟨rfl, hb1⟩
  have hd2 : decide (r2 < 0) = false := decide_eq_false (by omega)
  have hn : l.length ≤ 1000000000000 := by have := szFs_len (left := 1048576) (l := l) (by rw [hR.out]; exact h1); omega
  have HN := Lib.hid hn
  clear hn
  have hm4 : ls.length ≤ 1000000000000 := by omega
  have HM4 := Lib.hid hm4
  clear hm4
  cases hok : framesOk l ls
  all_goals
    have hOK := Lib.hid hok
    clear hok
    go_wp2_with (first
      | (go_at_call 11; refine (szFrameS A l c _ _ _ hA HN2.out HF.out (by omega) (by omega) hR.out).mono ?_; rintro e w1 ⟨rfl, hb1⟩)
      | (go_at_call 12; refine (szLedgerS B _ d _ _ _ HM2.out h2 h1 hR2.out).mono ?_; rintro e w2 ⟨rfl, rfl⟩)
      | (go_at_call 14; refine (toFrameS A l c _ (hA.on hb1) HL.out).mono ?_; rintro e v1 ⟨x1, rfl, _, rx1, sx1⟩; have bx1 := hb1.trans (sx1.mono hb1.size); unfold own0)
      | (go_at_call 15; refine (toLedgerS B ls d _ (hB.on bx1) HM.out).mono ?_; rintro e v2 ⟨y1, rfl, _, ty1, sy1⟩; have ry1 := rdL_of ty1; have bz1 := bx1.trans (sy1.mono bx1.size); unfold own0)
      | (go_at_call 13; refine (specFramesHold _ _ l ls _ _ _ (rx1.on sy1) ry1 HN.out HM4.out HF2.out).mono ?_; rintro e v3 ⟨rfl, s3⟩; have b3 := bz1.trans (s3.mono bz1.size); rw [hOK.out])
      | (go_at_call 14; refine (toFrameS A l c _ (hA.on b3) HL.out).mono ?_; rintro e v4 ⟨x2, rfl, _, rx2, sx2⟩; have bx2 := b3.trans (sx2.mono b3.size); unfold own0)
      | (go_at_call 15; refine (toLedgerS B ls d _ (hB.on bx2) HM.out).mono ?_; rintro e v5 ⟨y2, rfl, _, ty2, sy2⟩; have ry2 := rdL_of ty2; have bz2 := bx2.trans (sy2.mono bx2.size); unfold own0)
      | (go_at_call 16; refine (implFramesHold _ _ l ls _ _ _ (rx2.on sy2) ry2 HN.out HM4.out HF2.out).mono ?_; rintro e v6 ⟨rfl, s6⟩; have b6 := bz2.trans (s6.mono bz2.size); have q1 := (rx2.on sy2).on s6; have q2 := ry2.on s6; rw [hOK.out])
      | (go_at_call 14; refine (toFrameS A l c _ (hA.on b6) HL.out).mono ?_; rintro e v7 ⟨x3, rfl, _, rx3, sx3⟩; have bx3 := b6.trans (sx3.mono b6.size); unfold own0)
      | (go_at_call 17; refine (eqFrameS _ _ l _ _ _ (q1.on sx3) rx3 HN2.out HF.out).mono ?_; rintro e v8 ⟨rfl, s8⟩; have b8 := bx3.trans (s8.mono bx3.size))
      | (go_at_call 15; refine (toLedgerS B ls d _ (hB.on b8) HM.out).mono ?_; rintro e v9 ⟨y3, rfl, _, ty3, sy3⟩; have ry3 := rdL_of ty3; have bz3 := b8.trans (sy3.mono b8.size); unfold own0)
      | (go_at_call 18; refine (eqLedgerS _ _ ls _ _ _ (((q2.on sx3).on s8).on sy3) ry3 HM2.out).mono ?_; rintro e v10 ⟨rfl, s10⟩; have b10 := bz3.trans (s10.mono bz3.size)))
    go_ret
    exact ⟨rfl, b10⟩
end Go.Proofs.Ythdiilcpelioaaa

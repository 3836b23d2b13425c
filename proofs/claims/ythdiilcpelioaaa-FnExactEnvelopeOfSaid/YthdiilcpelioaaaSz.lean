/- What the laws count of their arguments. Condition: as many elements as memory takes. -/
import Derived.Test.YthdiilcpelioaaaConv
set_option linter.unusedVariables false
set_option linter.unusedSimpArgs false
namespace Go.Proofs.Ythdiilcpelioaaa
open Go.RowKit
def sz1 (left : Int) (n : Nat) : Int := if left - n < 0 then -1 else left - n
theorem sz1_no {left : Int} {n : Nat} (h : decide (left - n < 0) = true) : sz1 left n = -1 := by
  rw [sz1, if_pos (by simpa using h)]
theorem sz1_yes {left : Int} {n : Nat} (h : decide (left - n < 0) = false) : sz1 left n = left - n := by
  rw [sz1, if_neg (by simpa using h)]
theorem sz1_in {left : Int} {n : Nat} : sz1 left n = -1 ∨ (0 ≤ sz1 left n ∧ sz1 left n ≤ left ∧ (n : Int) ≤ left) := by
  unfold sz1; split <;> omega
def szAll {α : Type} (g : Int → α → Int) : Int → List α → Int
  | left, [] => left
  | left, x :: l => if g left x < 0 then -1 else szAll g (g left x) l
theorem szAll_snoc {α : Type} (g : Int → α → Int) (x : α) : ∀ (l : List α) (left : Int), szAll g left (l ++ [x]) = if szAll g left l < 0 then (if left < 0 then szAll g left (l ++ [x]) else -1) else if g (szAll g left l) x < 0 then -1 else g (szAll g left l) x
  | [], left => by
    by_cases h : left < 0
    · simp [szAll, h]
    · by_cases h2 : g left x < 0 <;> simp [szAll, h, h2]
  | y :: l, left => by
    by_cases h : g left y < 0
    · by_cases h2 : left < 0 <;> simp [szAll, h, h2]
    · have ih := szAll_snoc g x l (g left y)
      rw [List.cons_append, szAll, if_neg h, szAll, if_neg h, ih, if_neg h]
      by_cases h3 : szAll g (g left y) l < 0
      · by_cases h2 : left < 0 <;> simp [szAll, h, h3, h2, ih]
      · simp [h3]
/-- What was counted of the first ones decides on all, if it is negative. -/
theorem szAll_stop {α : Type} (g : Int → α → Int) {m : List α} : ∀ {l : List α} {left : Int}, 0 ≤ left → szAll g left l < 0 → szAll g left (l ++ m) = -1
  | [], left, h0, h => by simp [szAll] at h; omega
  | y :: l, left, h0, h => by
    rw [List.cons_append, szAll]
    by_cases hy : g left y < 0
    · rw [if_pos hy]
    · rw [if_neg hy]
      rw [szAll, if_neg hy] at h
      exact szAll_stop g (by omega) h
theorem szAll_le {α : Type} {g : Int → α → Int} {B : Int → α → Prop} (hg : ∀ left x, 0 ≤ left → g left x < 0 ∨ (0 ≤ g left x ∧ g left x ≤ left ∧ B left x)) (hB : ∀ a b x, a ≤ b → B a x → B b x) : ∀ {l : List α} {left : Int}, 0 ≤ left → 0 ≤ szAll g left l → szAll g left l ≤ left ∧ ∀ x ∈ l, B left x
  | [], left, h0, h => by simp [szAll]
  | y :: l, left, h0, h => by
    rw [szAll] at h ⊢
    by_cases hy : g left y < 0
    · rw [if_pos hy] at h; omega
    · rw [if_neg hy] at h ⊢
      rcases hg left y h0 with h1 | ⟨h1, h2, h3⟩
      · omega
      · obtain ⟨h4, h5⟩ := szAll_le hg hB (l := l) h1 h
        refine ⟨by omega, fun x hx => ?_⟩
        rcases List.mem_cons.1 hx with rfl | hx
        · exact h3
        · exact hB _ _ _ h2 (h5 x hx)
theorem szIdS (A : Option Addr) (n c : Nat) (left r : Int) (w : World) (h : n ≤ 1000000000000000) (hl : left ≤ 1048576) (h0 : 0 ≤ left) (hr : sz1 left n = r) :
    Calls Try.prog 76 #[.slice A n c, .int .i64 left] w fun e w' => e = .returned (.int .i64 r) ∧ w = w' := by
  subst hr
  go_enter Try.func76, Try.ntmps76
  have hi : IntKind.i64.wrap (left - (n : Int)) = left - (n : Int) := IntWalk.i64_in _ (by omega)
  cases hd : decide (left - (n : Int) < 0)
  · have H := Lib.hid (sz1_yes hd)
    go_wp2
    go_ret
    exact ⟨by rw [H.out]; rfl, rfl⟩
  · have H := Lib.hid (sz1_no hd)
    go_wp2
    go_ret
    exact ⟨by rw [H.out]; rfl, rfl⟩
theorem szIntS (A : Option Addr) (n c : Nat) (left r : Int) (w : World) (h : n ≤ 1000000000000000) (hl : left ≤ 1048576) (h0 : 0 ≤ left) (hr : sz1 left n = r) :
    Calls Try.prog 58 #[.slice A n c, .int .i64 left] w fun e w' => e = .returned (.int .i64 r) ∧ w = w' := by
  subst hr
  go_enter Try.func58, Try.ntmps58
  have hi : IntKind.i64.wrap (left - (n : Int)) = left - (n : Int) := IntWalk.i64_in _ (by omega)
  cases hd : decide (left - (n : Int) < 0)
  · have H := Lib.hid (sz1_yes hd)
    go_wp2
    go_ret
    exact ⟨by rw [H.out]; rfl, rfl⟩
  · have H := Lib.hid (sz1_no hd)
    go_wp2
    go_ret
    exact ⟨by rw [H.out]; rfl, rfl⟩
theorem szLedgerS (A : Option Addr) (n c : Nat) (left r : Int) (w : World) (h : n ≤ 1000000000000000) (hl : left ≤ 1048576) (h0 : 0 ≤ left) (hr : sz1 left n = r) :
    Calls Try.prog 12 #[.slice A n c, .int .i64 left] w fun e w' => e = .returned (.int .i64 r) ∧ w = w' := by
  subst hr
  go_enter Try.func12, Try.ntmps12
  have hi : IntKind.i64.wrap (left - (n : Int)) = left - (n : Int) := IntWalk.i64_in _ (by omega)
  cases hd : decide (left - (n : Int) < 0)
  · have H := Lib.hid (sz1_yes hd)
    go_wp2
    go_ret
    exact ⟨by rw [H.out]; rfl, rfl⟩
  · have H := Lib.hid (sz1_no hd)
    go_wp2
    go_ret
    exact ⟨by rw [H.out]; rfl, rfl⟩
theorem szMesh (roots : Int) (A : Option Addr) (n c : Nat) (left r : Int) (w : World) (h : n ≤ 1000000000000000) (hl : left ≤ 1048576) (h0 : 0 ≤ left) (hr : sz1 left n = r) :
    Calls Try.prog 57 #[.agg #[.int .i64 roots, .slice A n c], .int .i64 left] w fun e w' => e = .returned (.int .i64 r) ∧ Below w.heap.size w w' := by
  have hin := sz1_in (left := left) (n := n)
  rw [hr] at hin
  go_enter Try.func57, Try.ntmps57
  rcases hin with h1 | ⟨h1, h2, h3⟩
  · have hd : decide (r < 0) = true := decide_eq_true (by omega)
    subst h1
    go_wp2_with (go_at_call 76; refine (szIdS _ _ _ _ _ _ h hl h0 hr).mono ?_; rintro e w1 ⟨rfl, rfl⟩)
    go_ret
    exact ⟨rfl, by go_grown⟩
  · have hd : decide (r < 0) = false := decide_eq_false (by omega)
    go_wp2_with (go_at_call 76; refine (szIdS _ _ _ _ _ _ h hl h0 hr).mono ?_; rintro e w1 ⟨rfl, rfl⟩)
    go_ret
    exact ⟨rfl, by go_grown⟩
def szFr (left : Int) (f : FrameR) : Int := if sz1 left f.leaves.length < 0 then -1 else sz1 (sz1 left f.leaves.length) f.code.length
theorem szFrame (f : FrameR) (A1 A2 : Option Addr) (c1 c2 : Nat) (left r : Int) (w : World) (h1 : f.leaves.length ≤ 1000000000000000) (h2 : f.code.length ≤ 1000000000000000) (hl : left ≤ 1048576) (h0 : 0 ≤ left) (hr : szFr left f = r) :
    Calls Try.prog 37 #[f.v A1 c1 A2 c2, .int .i64 left] w fun e w' => e = .returned (.int .i64 r) ∧ Below w.heap.size w w' := by
  obtain ⟨step, roots, leaves, total, tracer, quantum, code⟩ := f
  unfold FrameR.v
  unfold szFr at hr
  dsimp only at h1 h2 hr ⊢
  generalize hm : sz1 left leaves.length = m at hr
  have hin := sz1_in (left := left) (n := leaves.length)
  have hin2 := sz1_in (left := m) (n := code.length)
  rw [hm] at hin
  go_enter Try.func37, Try.ntmps37
  have hb0 := below_new w (.cells #[.int .i64 step, .int .i64 roots, .slice A1 leaves.length c1, .int .i64 total, .int .i64 tracer, .int .i64 quantum, .slice A2 code.length c2] 71)
  have m6 : (w.alloc (.cells #[.int .i64 step, .int .i64 roots, .slice A1 leaves.length c1, .int .i64 total, .int .i64 tracer, .int .i64 quantum, .slice A2 code.length c2] 71)).cell? ⟨w.heap.size, 6, none⟩ = some (.slice A2 code.length c2) := Lib.cell_of_heap (heap_alloc_new w _) _
  rcases hin with h3 | ⟨h3, h4, h5⟩
  · have hd : decide (m < 0) = true := decide_eq_true (by omega)
    obtain rfl : r = -1 := by rw [← hr, if_pos (by omega)]
    have hM := Lib.hid hm
    clear hr hin2 hm h3
    go_wp2_with (go_at_call 57; refine (szMesh _ _ _ _ _ _ _ h1 hl h0 hM.out).mono ?_; rintro e w1 ⟨rfl, hb1⟩)
    go_ret
    exact ⟨rfl, hb0.trans (hb1.mono hb0.size)⟩
  · have hd : decide (m < 0) = false := decide_eq_false (by omega)
    rw [if_neg (by omega)] at hr
    rw [hr] at hin2
    have hM := Lib.hid hm
    have hR := Lib.hid hr
    clear hr hm
    rcases hin2 with h6 | ⟨h6, h7, h8⟩
    · have hd2 : decide (r < 0) = true := decide_eq_true (by omega)
      subst h6
      go_wp2_with (first
        | (go_at_call 57; refine (szMesh _ _ _ _ _ _ _ h1 hl h0 hM.out).mono ?_; rintro e w1 ⟨rfl, hb1⟩; have n6 := cell_on hb1 m6; have hw1 := Lib.hid (hb0.trans (hb1.mono hb0.size)))
        | (go_at_call 58; refine (szIntS _ _ _ _ _ _ h2 (Int.le_trans h4 hl) h3 hR.out).mono ?_; rintro e w2 ⟨rfl, rfl⟩))
      go_ret
      exact ⟨rfl, hw1.out⟩
    · have hd2 : decide (r < 0) = false := decide_eq_false (by omega)
      go_wp2_with (first
        | (go_at_call 57; refine (szMesh _ _ _ _ _ _ _ h1 hl h0 hM.out).mono ?_; rintro e w1 ⟨rfl, hb1⟩; have n6 := cell_on hb1 m6; have hw1 := Lib.hid (hb0.trans (hb1.mono hb0.size)))
        | (go_at_call 58; refine (szIntS _ _ _ _ _ _ h2 (Int.le_trans h4 hl) h3 hR.out).mono ?_; rintro e w2 ⟨rfl, rfl⟩))
      go_ret
      exact ⟨rfl, hw1.out⟩
theorem szFr_in (left : Int) (f : FrameR) (h0 : 0 ≤ left) : szFr left f < 0 ∨ (0 ≤ szFr left f ∧ szFr left f ≤ left ∧ ((f.leaves.length : Int) ≤ left ∧ (f.code.length : Int) ≤ left)) := by
  unfold szFr
  have h1 := sz1_in (left := left) (n := f.leaves.length)
  have h2 := sz1_in (left := sz1 left f.leaves.length) (n := f.code.length)
  split <;> omega
def szFs (left : Int) (l : List FrameR) : Int := if sz1 left l.length < 0 then -1 else szAll szFr (sz1 left l.length) l
set_option maxHeartbeats 1000000 in
theorem szFrameS (A : Option Addr) (l : List FrameR) (c : Nat) (left r : Int) (w : World) (hA : RdF w A l) (hn : l.length ≤ 1000000000000000) (hf : ∀ f ∈ l, f.leaves.length ≤ 1000000000000000 ∧ f.code.length ≤ 1000000000000000) (hl : left ≤ 1048576) (h0 : 0 ≤ left) (hr : szFs left l = r) :
    Calls Try.prog 11 #[.slice A l.length c, .int .i64 left] w fun e w' => e = .returned (.int .i64 r) ∧ Below w.heap.size w w' := by
  unfold szFs at hr
  have hi : IntKind.i64.wrap (left - (l.length : Int)) = left - (l.length : Int) := IntWalk.i64_in _ (by omega)
  go_enter Try.func11, Try.ntmps11
  cases hd : decide (left - (l.length : Int) < 0)
  · rw [sz1_yes hd] at hr
    have hd' : 0 ≤ left - (l.length : Int) := by simpa using hd
    rw [if_neg (by omega)] at hr
    have hR := Lib.hid hr
    clear hr
    go_wp2
    go_loopw [1, 5] (fun a i wr => ∃ (k : Nat) (s : Int), k ≤ l.length ∧ i = .int .i64 k ∧ a = .int .i64 s ∧ (0 ≤ s ∧ s ≤ left - (l.length : Int)) ∧ Hid (szAll szFr (left - (l.length : Int)) (l.take k) = s) ∧ Below w.heap.size w wr) (fun _ i _ => l.length - (intOf i).toNat)
    case atStart => exact ⟨0, _, Nat.zero_le _, rfl, rfl, ⟨hd', Int.le_refl _⟩, Lib.hid rfl, Below.refl _ _⟩
    case round =>
      obtain ⟨k, s, hk, rfl, rfl, ⟨hs0, hsm⟩, hS, hbr⟩ := hrel
      by_cases hlt : k < l.length
      · obtain ⟨b, o, A1, c1, A2, c2, rfl, hab, x0, x1, x2, x3, x4, x5, x6, x7, x8⟩ := (hA.on hbr) k hlt
        obtain ⟨hlk, hck⟩ := hf l[k] (List.getElem_mem hlt)
        have hT : szAll szFr (left - (l.length : Int)) (l.take (k + 1)) = if szFr s l[k] < 0 then -1 else szFr s l[k] := by
          rw [List.take_succ_eq_append_getElem hlt, szAll_snoc, hS.out, if_neg (by omega)]
        rcases szFr_in s l[k] hs0 with h1 | ⟨h1, h2, _⟩
        · have hres : szAll szFr (left - (l.length : Int)) l = -1 := by
            rw [if_pos h1] at hT
            have h3 := szAll_stop szFr (m := l.drop (k + 1)) hd' (l := l.take (k + 1)) (by rw [hT]; omega)
            rwa [List.take_append_drop] at h3
          have hr' := hR.out
          rw [hres] at hr'
          have hd2 : decide (szFr s l[k] < 0) = true := by simpa using h1
          have hs1 : s ≤ 1048576 := by omega
          clear hT hres
          subst hr'
          go_wp2_with (go_at_call 37; refine (szFrame l[k] A1 A2 c1 c2 _ _ _ hlk hck hs1 hs0 rfl).mono ?_; rintro e w1 ⟨rfl, hb1⟩)
          go_ret
          exact ⟨rfl, hbr.trans (hb1.mono hbr.size)⟩
        · rw [if_neg (by omega)] at hT
          have hT' := Lib.hid hT
          have hd2 : decide (szFr s l[k] < 0) = false := by simpa using h1
          have hs1 : s ≤ 1048576 := by omega
          have hm2 : szFr s l[k] ≤ left - (l.length : Int) := by omega
          clear hT
          go_wp2_with (go_at_call 37; refine (szFrame l[k] A1 A2 c1 c2 _ _ _ hlk hck hs1 hs0 rfl).mono ?_; rintro e w1 ⟨rfl, hb1⟩)
          go_roundw
          case rel => exact ⟨k + 1, _, by omega, by go_num, rfl, ⟨h1, hm2⟩, hT', hbr.trans (hb1.mono hbr.size)⟩
          case measure => simp [intOf]; omega
      · have hkl : k = l.length := by omega
        have h3 := hS.out
        rw [hkl, List.take_length, hR.out] at h3
        have hrs : r = s := h3
        clear h3
        subst hrs
        go_wp2
        go_ret
        exact ⟨rfl, hbr⟩
  · rw [sz1_no hd, if_pos (by omega)] at hr
    subst hr
    go_wp2
    go_ret
    exact ⟨rfl, Below.refl _ _⟩
end Go.Proofs.Ythdiilcpelioaaa

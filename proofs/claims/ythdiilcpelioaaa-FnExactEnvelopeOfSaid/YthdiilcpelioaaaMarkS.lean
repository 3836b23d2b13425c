/- What the laws write over states: nothing but the states' own blocks turns. Condition: at most 1048576 states and cells. -/
import Derived.Test.YthdiilcpelioaaaMark
set_option linter.unusedVariables false
set_option linter.unusedSimpArgs false
namespace Go.Proofs.Ythdiilcpelioaaa
open Go.RowKit
theorem markInts (g c n : Nat) (k : Int) (w : World) (h : NumBlk w g n) (hl : n ≤ 1000000000000000) (hk : 0 ≤ k) (hk2 : k ≤ 1000000000000000000) :
    Calls Try.prog 25 #[.slice (some ⟨g, 0, none⟩) n c, .int .i64 k] w fun e w' => e = .returned (.int .i64 (k + n)) ∧ Touch (· = g) w w' ∧ Keeps w w' := by
  have h0 := h
  obtain ⟨t, xs, hb, rfl⟩ := h
  rw [← List.append_nil (ints xs)] at hb
  refine (markIntS g c xs [] t k w hb hl hk hk2).mono fun e w' ⟨he, hb', ht⟩ => ?_
  rw [List.append_nil] at hb'
  exact ⟨he, ht, Keeps.of h0 ⟨t, _, hb', seq_len _ _⟩ ht⟩
theorem markIds (g c n : Nat) (k : Int) (w : World) (h : NumBlk w g (3 * n)) (hl : n ≤ 1000000000000000) (hk : 0 ≤ k) (hk2 : k ≤ 1000000000000000000) :
    Calls Try.prog 48 #[.slice (some ⟨g, 0, none⟩) n c, .int .i64 k] w fun e w' => e = .returned (.int .i64 (k + 3 * n)) ∧ Touch (· = g) w w' ∧ Keeps w w' := by
  have h0 := h
  obtain ⟨t, xs, hb, hx⟩ := h
  exact (markIdS g c n xs t k w hb hx hl hk hk2).mono fun e w' ⟨he, hb', ht⟩ => ⟨he, ht, Keeps.of h0 hb' ht⟩
/-- A state's cells, whatever its numbers: slices of blocks of numbers between B and E, none of which is g. -/
def Shp (B E g : Nat) (w : World) (c : List Value) : Prop := ∃ (r : Int) (g1 n1 g2 n2 g3 n3 g4 n4 : Nat), c = [.int .i64 r, own0 g1 n1, own0 g2 n2, own0 g3 n3, own0 g4 n4] ∧
  (B ≤ g1 ∧ g1 < E ∧ B ≤ g2 ∧ g2 < E ∧ B ≤ g3 ∧ g3 < E ∧ B ≤ g4 ∧ g4 < E) ∧ (g ≠ g1 ∧ g ≠ g2 ∧ g ≠ g3 ∧ g ≠ g4) ∧ (n1 ≤ 1048576 ∧ n2 ≤ 1048576 ∧ n3 ≤ 1048576 ∧ n4 ≤ 1048576) ∧
  NumBlk w g1 (3 * n1) ∧ NumBlk w g2 n2 ∧ NumBlk w g3 n3 ∧ NumBlk w g4 n4
theorem Shp.keep {B E g : Nat} {w w' : World} {c : List Value} (h : Shp B E g w c) (hk : Keeps w w') : Shp B E g w' c := by
  obtain ⟨r, g1, n1, g2, n2, g3, n3, g4, n4, e, hb, hn, hs, b1, b2, b3, b4⟩ := h
  exact ⟨r, g1, n1, g2, n2, g3, n3, g4, n4, e, hb, hn, hs, hk _ _ b1, hk _ _ b2, hk _ _ b3, hk _ _ b4⟩
theorem NumBlk.other {w : World} {g g' n : Nat} (h : NumBlk w g n) (hne : g' ≠ g) (i : Nat) (v : Value) : NumBlk (w.setCell ⟨g', i, none⟩ v) g n := by
  obtain ⟨t, xs, hb, hl⟩ := h
  exact ⟨t, xs, hb.other hne i v, hl⟩
theorem Shp.set {B E g : Nat} {w : World} {c : List Value} (h : Shp B E g w c) (i : Nat) (v : Value) : Shp B E g (w.setCell ⟨g, i, none⟩ v) c := by
  obtain ⟨r, g1, n1, g2, n2, g3, n3, g4, n4, e, hb, hn, hs, b1, b2, b3, b4⟩ := h
  exact ⟨r, g1, n1, g2, n2, g3, n3, g4, n4, e, hb, hn, hs, b1.other hn.1 i v, b2.other hn.2.1 i v, b3.other hn.2.2.1 i v, b4.other hn.2.2.2 i v⟩
theorem Shp.len {B E g : Nat} {w : World} {c : List Value} (h : Shp B E g w c) : c.length = 5 := by
  obtain ⟨r, g1, n1, g2, n2, g3, n3, g4, n4, rfl, _⟩ := h; rfl
def StShape (B E : Nat) (w : World) (g n : Nat) (css : List (List Value)) : Prop := css.length = n ∧ (∀ c ∈ css, Shp B E g w c) ∧ Blk w g 33 css.flatten
theorem flat_set {n : Nat} : ∀ {css : List (List Value)}, (∀ c ∈ css, c.length = n) → ∀ {j : Nat} (hj : j < css.length) {i : Nat}, i < n → ∀ v : Value, css.flatten.set (j * n + i) v = (css.set j (css[j].set i v)).flatten
  | [], _, j, hj, _, _, _ => by simp at hj
  | c :: css, h, 0, _, i, hi, v => by
    have hc := h c (List.mem_cons_self ..)
    simp only [List.flatten_cons, Nat.zero_mul, Nat.zero_add, List.getElem_cons_zero, List.set_cons_zero]
    rw [List.set_append_left _ _ (by omega)]
  | c :: css, h, j + 1, hj, i, hi, v => by
    have hc := h c (List.mem_cons_self ..)
    have ih := flat_set (css := css) (fun c hc => h c (List.mem_cons_of_mem _ hc)) (j := j) (by simpa using hj) hi v
    simp only [List.flatten_cons, List.getElem_cons_succ, List.set_cons_succ]
    rw [List.set_append_right _ _ (by rw [hc, Nat.add_mul]; omega), hc, show (j + 1) * n + i - n = j * n + i by rw [Nat.add_mul]; omega, ih]
def MarkOut (B E : Nat) (w : World) (e : Ending) (w' : World) : Prop := ∃ r : Int, e = .returned (.int .i64 r) ∧ 0 ≤ r ∧ Touch (fun i => B ≤ i ∧ i < E) w w'
set_option maxHeartbeats 4000000 in
theorem markStateS (B E g c n : Nat) (css0 : List (List Value)) (w : World) (hg : B ≤ g ∧ g < E) (hS : StShape B E w g n css0) (hn : n ≤ 1048576) :
    Calls Try.prog 24 #[.slice (some ⟨g, 0, none⟩) n c, .int .i64 1] w (MarkOut B E w) := by
  have hG := Lib.hid hg
  clear hg
  go_enter Try.func24, Try.ntmps24
  go_wp2
  go_loopw [1, 5] (fun a i wr => ∃ (j : Nat) (k : Int) (css : List (List Value)), j ≤ n ∧ i = .int .i64 j ∧ a = .int .i64 k ∧ (1 ≤ k ∧ k ≤ 1 + j * 8388608) ∧ Hid (StShape B E wr g n css) ∧ Touch (fun i => B ≤ i ∧ i < E) w wr) (fun _ i _ => n - (intOf i).toNat)
  case atStart => exact ⟨0, 1, css0, Nat.zero_le _, rfl, rfl, by omega, Lib.hid hS, Touch.refl _ _⟩
  case round =>
    obtain ⟨j, k, css, hj, rfl, rfl, ⟨hk1, hk2⟩, hSh, ht⟩ := hrel
    by_cases hlt : j < n
    · obtain ⟨s1, s2, s3⟩ := hSh.out
      have hjc : j < css.length := by omega
      have h5 : ∀ c ∈ css, c.length = 5 := fun c hc => (s2 c hc).len
      obtain ⟨r, g1, n1, g2, n2, g3, n3, g4, n4, ec, ⟨l1, u1, l2, u2, l3, u3, l4, u4⟩, ⟨m1, m2, m3, m4⟩, ⟨z1, z2, z3, z4⟩, b1, b2, b3, b4⟩ := s2 _ (List.getElem_mem hjc)
      have hf := fun i (hi : i < 5) => flat_at h5 [] hjc hi
      simp only [List.append_nil] at hf
      have c0 := s3.cell ((hf 0 (by omega)).trans (by rw [ec]; rfl))
      have c1 := s3.cell ((hf 1 (by omega)).trans (by rw [ec]; rfl))
      rw [Nat.add_zero] at c0
      have f0 := s3.frozen (j * 5)
      have hS1 : Blk (wr.setCell ⟨g, j * 5, none⟩ (.int .i64 k)) g 33 (css.set j (css[j].set 0 (.int .i64 k))).flatten := by
        have := s3.set (j * 5) (.int .i64 k)
        rw [← Nat.add_zero (j * 5), flat_set h5 hjc (by omega)] at this
        exact this
      have h5' : ∀ c ∈ css.set j (css[j].set 0 (.int .i64 k)), c.length = 5 := fun c hc => by
        rcases List.mem_or_eq_of_mem_set hc with hc | rfl
        · exact h5 c hc
        · simp [ec]
      have hf' := fun i (hi : i < 5) => flat_at h5' [] (i := j) (by simpa using hjc) hi
      simp only [List.append_nil, List.getElem_set_self] at hf'
      have e2 := (hf' 2 (by omega)).trans (show _ = some (own0 g2 n2) by rw [ec]; rfl)
      have e3 := (hf' 3 (by omega)).trans (show _ = some (own0 g3 n3) by rw [ec]; rfl)
      have e4 := (hf' 4 (by omega)).trans (show _ = some (own0 g4 n4) by rw [ec]; rfl)
      have hshp : ∀ c ∈ css.set j (css[j].set 0 (.int .i64 k)), Shp B E g (wr.setCell ⟨g, j * 5, none⟩ (.int .i64 k)) c := fun c hc => by
        rcases List.mem_or_eq_of_mem_set hc with hc | rfl
        · exact (s2 c hc).set _ _
        · exact Shp.set ⟨k, g1, n1, g2, n2, g3, n3, g4, n4, by rw [ec]; rfl, ⟨l1, u1, l2, u2, l3, u3, l4, u4⟩, ⟨m1, m2, m3, m4⟩, ⟨z1, z2, z3, z4⟩, b1, b2, b3, b4⟩ _ _
      have d1 := b1.other m1 (j * 5) (.int .i64 k)
      have d2 := b2.other m2 (j * 5) (.int .i64 k)
      have d3 := b3.other m3 (j * 5) (.int .i64 k)
      have d4 := b4.other m4 (j * 5) (.int .i64 k)
      have hL := Lib.hid (show (css.set j (css[j].set 0 (.int .i64 k))).length = n by simpa using s1)
      have hT1 := Lib.hid (ht.set (G := fun i => B ≤ i ∧ i < E) hG.out (i := j * 5) (.int .i64 k))
      have hSH := Lib.hid hshp
      have HF2 := Lib.hid e2
      have HF3 := Lib.hid e3
      have HF4 := Lib.hid e4
      have K1 := Lib.hid l1
      have hjb : (j : Int) ≤ 1048576 := by omega
      have W1 := Lib.hid hS1
      unfold own0 at c1
      clear hf hf' e2 e3 e4 hshp hS1 h5' h5 s1 s2 s3 ec b1 b2 b3 b4 ht hSh
      generalize css.set j (css[j].set 0 (.int .i64 k)) = css' at hL hSH HF2 HF3 HF4 W1
      clear css0 hS
      go_wp2_with (first
        | (go_at_call 48; refine (markIds g1 _ n1 _ _ d1 (by omega) (by omega) (by omega)).mono ?_; rintro e w2 ⟨rfl, t2, k2⟩; have hB2 := W1.out.touch t2 m1; have a2 := hB2.cell HF2.out; unfold own0 at a2; have dd2 := k2 _ _ d2; have dd3 := k2 _ _ d3; have dd4 := k2 _ _ d4; have hT2 := Lib.hid (hT1.out.trans (t2.weak (fun i hi => by subst hi; exact ⟨l1, u1⟩))))
        | (go_at_call 25; (fail_if_success (have := tokA)); refine (markInts g2 _ n2 _ _ dd2 (by omega) (by omega) (by omega)).mono ?_; rintro e w3 ⟨rfl, t3, k3⟩; have tokA : True := trivial; have hB3 := hB2.touch t3 m2; have a3 := hB3.cell HF3.out; unfold own0 at a3; have ee3 := k3 _ _ dd3; have ee4 := k3 _ _ dd4; have hT3 := Lib.hid (hT2.out.trans (t3.weak (fun i hi => by subst hi; exact ⟨l2, u2⟩))))
        | (go_at_call 25; (fail_if_success (have := tokB)); refine (markInts g3 _ n3 _ _ ee3 (by omega) (by omega) (by omega)).mono ?_; rintro e w4 ⟨rfl, t4, k4⟩; have tokB : True := trivial; have hB4 := hB3.touch t4 m3; have a4 := hB4.cell HF4.out; unfold own0 at a4; have ff4 := k4 _ _ ee4; have hT4 := Lib.hid (hT3.out.trans (t4.weak (fun i hi => by subst hi; exact ⟨l3, u3⟩))))
        | (go_at_call 25; refine (markInts g4 _ n4 _ _ ff4 (by omega) (by omega) (by omega)).mono ?_; rintro e w5 ⟨rfl, t5, k5⟩; have hB5 := hB4.touch t5 m4; have hT5 := Lib.hid (hT4.out.trans (t5.weak (fun i hi => by subst hi; exact ⟨l4, u4⟩)))))
      go_roundw
      case rel =>
        refine ⟨j + 1, _, css', by omega, by go_num, rfl, ⟨by omega, by omega⟩, Lib.hid ⟨hL.out, fun c hc => (hSH.out c hc).keep (((k2.trans k3).trans k4).trans k5), hB5⟩, hT5.out⟩
      case measure => simp [intOf]; omega
    · go_wp2
      go_ret
      exact ⟨k, rfl, by omega, ht⟩
theorem ints_ids (l : List IdR) : (l.map IdR.enc).flatten = ints (l.flatMap fun x => [x.r, x.l, x.i]) := by
  induction l with
  | nil => rfl
  | cons x l ih => simp [ints, IdR.enc] at ih ⊢; exact ih
/-- A fresh slice of states has the shape. -/
theorem OwnSS.shape {B : Nat} {w : World} {g : Nat} {l : List StateR} (h : OwnSS B w g l) (hs : ∀ s ∈ l, s.leaves.length ≤ 1048576 ∧ s.mass.length ≤ 1048576 ∧ s.tracer.length ≤ 1048576 ∧ s.bed.length ≤ 1048576) : ∃ css, StShape B w.heap.size w g l.length css := by
  obtain ⟨h0, css, h1, h2, h3, h4⟩ := h
  refine ⟨css, h1, fun c hc => ?_, h4⟩
  obtain ⟨i, hi, rfl⟩ := List.getElem_of_mem hc
  obtain ⟨g1, g2, g3, g4, e, ⟨u1, u2, u3, u4⟩, hn, b1, b2, b3, b4⟩ := h3 i (by omega) hi
  have hx := hs l[i] (List.getElem_mem (by omega))
  refine ⟨l[i].roots, g1, l[i].leaves.length, g2, l[i].mass.length, g3, l[i].tracer.length, g4, l[i].bed.length, e, ⟨u1, b1.lt, u2, b2.lt, u3, b3.lt, u4, b4.lt⟩, hn, hx, ⟨_, _, by rw [ints_ids] at b1; exact b1, ?_⟩, ⟨_, _, by rw [flat_ints] at b2; exact b2, rfl⟩, ⟨_, _, by rw [flat_ints] at b3; exact b3, rfl⟩, ⟨_, _, by rw [flat_ints] at b4; exact b4, rfl⟩⟩
  generalize l[i].leaves = m
  clear b1 b2 b3 b4 e
  induction m with
  | nil => rfl
  | cons x m ih => simp [List.flatMap_cons] at ih ⊢; omega
end Go.Proofs.Ythdiilcpelioaaa

/- What the laws write over memory, and what they find there again. Condition: as many elements as memory takes. -/
import Derived.Test.YthdiilcpelioaaaStSs
import Derived.Test.YthdiilcpelioaaaEnvI
set_option linter.unusedVariables false
set_option linter.unusedSimpArgs false
namespace Go.Proofs.Ythdiilcpelioaaa
open Go.RowKit
/-- Of what there was, nothing has turned but in blocks of G. -/
structure Touch (G : Nat → Prop) (w w' : World) : Prop where
  os : w'.os = w.os
  tape : w'.tape = w.tape
  output : w'.output = w.output
  size : w.heap.size ≤ w'.heap.size
  block : ∀ i, i < w.heap.size → ¬ G i → w'.heap[i]? = w.heap[i]?
theorem Touch.refl (G : Nat → Prop) (w : World) : Touch G w w := ⟨rfl, rfl, rfl, Nat.le_refl _, fun _ _ _ => rfl⟩
theorem Touch.trans {G : Nat → Prop} {a b c : World} (h : Touch G a b) (h' : Touch G b c) : Touch G a c :=
  ⟨h'.os.trans h.os, h'.tape.trans h.tape, h'.output.trans h.output, Nat.le_trans h.size h'.size, fun i hi hg => (h'.block i (Nat.lt_of_lt_of_le hi h.size) hg).trans (h.block i hi hg)⟩
theorem Touch.weak {G H : Nat → Prop} {a b : World} (h : Touch G a b) (hs : ∀ i, G i → H i) : Touch H a b :=
  ⟨h.os, h.tape, h.output, h.size, fun i hi hn => h.block i hi (fun hg => hn (hs i hg))⟩
theorem Touch.set {G : Nat → Prop} {w w' : World} (h : Touch G w w') {g i : Nat} (hg : G g) (v : Value) : Touch G w (w'.setCell ⟨g, i, none⟩ v) := by
  refine ⟨h.os, h.tape, h.output, by simpa [World.setCell] using h.size, fun j hj hn => ?_⟩
  have hne : g ≠ j := fun e => hn (e ▸ hg)
  rw [← h.block j hj hn]
  simp only [World.setCell, Array.getElem?_modify, if_neg hne]
theorem Touch.below {G : Nat → Prop} {B : Nat} {a w w' : World} (h : Below B a w) (ht : Touch G w w') (hB : B ≤ w.heap.size) (hG : ∀ i, G i → B ≤ i) : Below B a w' :=
  h.trans ⟨ht.os, ht.tape, ht.output, ht.size, fun k hk => ht.block k (by omega) (fun hg => by have := hG k hg; omega)⟩
theorem Blk.touch {G : Nat → Prop} {w w' : World} {g : Nat} {e : TypeId} {xs : List Value} (h : Blk w g e xs) (ht : Touch G w w') (hg : ¬ G g) : Blk w' g e xs := (ht.block g h.lt hg).trans h
/-- A block of n numbers. -/
def NumBlk (w : World) (g n : Nat) : Prop := ∃ t xs, Blk w g t (ints xs) ∧ xs.length = n
def Keeps (w w' : World) : Prop := ∀ g n, NumBlk w g n → NumBlk w' g n
theorem Keeps.trans {a b c : World} (h : Keeps a b) (h' : Keeps b c) : Keeps a c := fun g n hn => h' g n (h g n hn)
theorem numBlk_same {w : World} {g n m : Nat} (h : NumBlk w g n) (h' : NumBlk w g m) : n = m := by
  obtain ⟨t, xs, hb, rfl⟩ := h
  obtain ⟨t', ys, hb', rfl⟩ := h'
  unfold Blk at hb hb'
  rw [hb] at hb'
  simp only [Option.some.injEq, Obj.cells.injEq, Array.mk.injEq] at hb'
  have := congrArg List.length hb'.1
  simpa [ints] using this
theorem Keeps.of {w w' : World} {g n : Nat} (h : NumBlk w g n) (h' : NumBlk w' g n) (ht : Touch (· = g) w w') : Keeps w w' := fun g' n' hn => by
  by_cases he : g' = g
  · subst he
    rwa [← numBlk_same h hn]
  · obtain ⟨t, xs, hb, hl⟩ := hn
    exact ⟨t, xs, hb.touch ht he, hl⟩
def seq (k : Int) (n : Nat) : List Int := (List.range n).map fun (i : Nat) => k + i
theorem seq_len (k : Int) (n : Nat) : (seq k n).length = n := by simp [seq]
theorem seq_at {k : Int} {n i : Nat} (h : i < n) : (seq k n)[i]'(by rw [seq_len]; exact h) = k + i := by simp [seq]
set_option maxHeartbeats 1000000 in
theorem markIntS (g c : Nat) (l : List Int) (T : List Value) (t : TypeId) (k : Int) (w : World) (hB : Blk w g t (ints l ++ T)) (hl : l.length ≤ 1000000000000000) (hk : 0 ≤ k) (hk2 : k ≤ 1000000000000000000) :
    Calls Try.prog 25 #[.slice (some ⟨g, 0, none⟩) l.length c, .int .i64 k] w fun e w' => e = .returned (.int .i64 (k + l.length)) ∧ Blk w' g t (ints (seq k l.length) ++ T) ∧ Touch (· = g) w w' := by
  have hsl := Lib.hid (seq_len k l.length)
  go_enter Try.func25, Try.ntmps25
  go_wp2
  go_loopw [1, 5] (fun a i wr => ∃ j : Nat, j ≤ l.length ∧ i = .int .i64 j ∧ a = .int .i64 (k + j) ∧ Blk wr g t (ints (mix (seq k l.length) l j) ++ T) ∧ Touch (· = g) w wr) (fun _ i _ => l.length - (intOf i).toNat)
  case atStart => exact ⟨0, Nat.zero_le _, rfl, by simp, by rw [mix_zero]; exact hB, Touch.refl _ _⟩
  case round =>
    obtain ⟨j, hj, rfl, rfl, hBj, ht⟩ := hrel
    by_cases hlt : j < l.length
    · have u1 := hBj.cell (ints_at (mix_at hsl.out hlt))
      have v1 := hBj.frozen j
      have hq := Lib.hid (show (mix (seq k l.length) l j).set j (k + j) = mix (seq k l.length) l (j + 1) by
        rw [← mix_set hsl.out hlt]; congr 1; exact (seq_at hlt).symm)
      have hq3 := Lib.hid (List.getElem?_eq_some_iff.1 (mix_at hsl.out hlt)).1
      have hBJ := Lib.hid hBj
      clear hBj
      go_wp2
      go_roundw
      case rel =>
        have S := hBJ.out.set j (.int .i64 (k + j))
        rw [ints_set _ _ _ _ hq3.out, hq.out] at S
        exact ⟨j + 1, by omega, by go_num, by congr 1; omega, S, ht.set rfl _⟩
      case measure => simp [intOf]; omega
    · have hjl : j = l.length := by omega
      have S := hBj
      rw [hjl, mix_all hsl.out] at S
      clear hBj
      go_wp2
      go_ret
      exact ⟨by first | rfl | (rw [hjl]; rfl), S, ht⟩
set_option maxHeartbeats 1000000 in
theorem heldIntS (A : Option Addr) (c n : Nat) (k : Int) (w : World) (hr : RdI w A (seq k n)) (hl : n ≤ 1000000000000000) (hk : 0 ≤ k) (hk2 : k ≤ 1000000000000000000) :
    Calls Try.prog 26 #[.slice A n c, .int .i64 k] w fun e w' => e = .returned (.int .i64 (k + n)) ∧ w' = w := by
  go_enter Try.func26, Try.ntmps26
  go_wp2
  go_loop [1, 5] (fun a i => ∃ j : Nat, j ≤ n ∧ i = .int .i64 j ∧ a = .int .i64 (k + j)) (fun _ i => n - (intOf i).toNat)
  case atStart => exact ⟨0, Nat.zero_le _, rfl, by simp⟩
  case round =>
    obtain ⟨j, hj, rfl, rfl⟩ := hrel
    by_cases hlt : j < n
    · obtain ⟨b, o, rfl, hab, c0⟩ := hr j (by rw [seq_len]; exact hlt)
      rw [seq_at hlt] at c0
      go_wp2
      go_round
      case rel => exact ⟨j + 1, by omega, by go_num, by congr 1; omega⟩
      case measure => simp [intOf]; omega
    · have hjl : j = n := by omega
      go_wp2
      go_ret
      exact ⟨by first | rfl | (rw [hjl]; rfl), rfl⟩
set_option maxHeartbeats 1000000 in
theorem markIdS (g c n : Nat) (l : List Int) (t : TypeId) (k : Int) (w : World) (hB : Blk w g t (ints l)) (hn : l.length = 3 * n) (hl : n ≤ 1000000000000000) (hk : 0 ≤ k) (hk2 : k ≤ 1000000000000000000) :
    Calls Try.prog 48 #[.slice (some ⟨g, 0, none⟩) n c, .int .i64 k] w fun e w' => e = .returned (.int .i64 (k + 3 * n)) ∧ NumBlk w' g (3 * n) ∧ Touch (· = g) w w' := by
  go_enter Try.func48, Try.ntmps48
  have hN := Lib.hid hn
  clear hn
  go_wp2
  go_loopw [1, 5] (fun a i wr => ∃ (j : Nat) (l' : List Int), j ≤ n ∧ i = .int .i64 j ∧ a = .int .i64 (k + 3 * j) ∧ Hid (l'.length = 3 * n) ∧ Blk wr g t (ints l') ∧ Touch (· = g) w wr) (fun _ i _ => n - (intOf i).toNat)
  case atStart => exact ⟨0, l, Nat.zero_le _, rfl, by simp, hN, hB, Touch.refl _ _⟩
  case round =>
    obtain ⟨j, l', hj, rfl, rfl, hL, hBj, ht⟩ := hrel
    by_cases hlt : j < n
    · have hl' := hL.out
      obtain ⟨x0, a0⟩ : ∃ x, l'[j * 3]? = some x := ⟨_, List.getElem?_eq_getElem (by omega)⟩
      obtain ⟨x1, a1⟩ : ∃ x, l'[j * 3 + 1]? = some x := ⟨_, List.getElem?_eq_getElem (by omega)⟩
      obtain ⟨x2, a2⟩ : ∃ x, l'[j * 3 + 2]? = some x := ⟨_, List.getElem?_eq_getElem (by omega)⟩
      have u0 := hBj.cell (by have := ints_at (T := []) a0; rwa [List.append_nil] at this)
      have u1 := hBj.cell (by have := ints_at (T := []) a1; rwa [List.append_nil] at this)
      have u2 := hBj.cell (by have := ints_at (T := []) a2; rwa [List.append_nil] at this)
      have v0 := hBj.frozen (j * 3)
      have v1 := hBj.frozen (j * 3 + 1)
      have v2 := hBj.frozen (j * 3 + 2)
      have hBJ := Lib.hid hBj
      have H0 := Lib.hid hl'
      clear hBj a0 a1 a2 hl'
      go_wp2
      go_roundw
      case rel =>
        have h0 := H0.out
        have S := ((hBJ.out.set (j * 3) (.int .i64 (k + 3 * j))).set (j * 3 + 1) (.int .i64 (k + 3 * j + 1))).set (j * 3 + 2) (.int .i64 (k + 3 * j + 1 + 1))
        rw [← List.append_nil (ints l'), ints_set _ _ _ _ (by omega), ints_set _ _ _ _ (by simp; omega), ints_set _ _ _ _ (by simp; omega), List.append_nil] at S
        exact ⟨j + 1, _, by omega, by go_num, by congr 1; omega, Lib.hid (by simp; omega), S, ((ht.set rfl _).set rfl _).set rfl _⟩
      case measure => simp [intOf]; omega
    · have hjl : j = n := by omega
      have S := hBj
      clear hBj
      go_wp2
      go_ret
      exact ⟨by first | rfl | (rw [hjl]; rfl), ⟨t, l', S, hL.out⟩, ht⟩
end Go.Proofs.Ythdiilcpelioaaa

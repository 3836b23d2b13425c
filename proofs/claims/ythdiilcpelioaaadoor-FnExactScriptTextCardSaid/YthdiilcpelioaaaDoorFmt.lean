/- What spec.FormatInt returns: a number's decimal text. Condition: a number of int's range. -/
import Derived.Test.YthdiilcpelioaaaDoorTxt
import Derived.Outline
import Derived.Laws.BytesArg
set_option linter.unusedVariables false
set_option linter.unusedSimpArgs false
namespace Go.Proofs.YthdiilcpelioaaaDoor
open Go.RowKit
theorem l01Figure (d : Int) (w : World) (h0 : 0 ≤ d) (h1 : d < 10) :
    Calls Tryd.prog 25 #[.int .i64 d] w fun e w' => e = .returned (.int .u8 (48 + d)) ∧ w = w' := by
  go_enter Tryd.func25, Tryd.ntmps25
  go_wp2
  go_ret
  exact ⟨by simp, rfl⟩
theorem oneByte (w : World) (x : Int) : (convert 48 9 (.slice (some ⟨w.heap.size, 0, none⟩) 1 1)).run Tryd.prog (w.alloc (.cells #[.int .u8 x] 5)) = .ok (.string ⟨[UInt8.ofNat x.toNat].toArray⟩) (w.alloc (.cells #[.int .u8 x] 5)) := by
  exact run_convert_bytes_arg _ 48 5 Tryd.underlying48 Tryd.underlying5 w.heap.size 0 1 1 [x] rfl (fun i hi => by
    obtain rfl : i = 0 := by omega
    exact Lib.cell_of_heap (heap_alloc_new w _) 0) 9 Tryd.underlying9
theorem str_add (a b : List UInt8) : (⟨a.toArray⟩ : ByteArray) ++ ⟨b.toArray⟩ = ⟨(a ++ b).toArray⟩ := by
  apply ByteArray.ext
  rw [ByteArray.data_append]
  simp
/-- what is still to be written, and what stands there -/
def DecInv (u m : Nat) (t : List UInt8) : Prop := (if m = 0 then t = Lib.decDigits u else Lib.decDigits u = Lib.decDigits m ++ t) ∧ t.length ≤ 21
theorem decDigits_ge {u : Nat} (h : 10 ≤ u) : Lib.decDigits u = Lib.decDigits (u / 10) ++ [UInt8.ofNat (48 + u % 10)] := by
  rw [Lib.decDigits, dif_neg (by omega)]
theorem decDigits_lt {u : Nat} (h : u < 10) : Lib.decDigits u = [UInt8.ofNat (48 + u)] := by
  rw [Lib.decDigits, dif_pos h]
theorem DecInv.step {u m : Nat} {t : List UInt8} (h : DecInv u m t) (hm : m ≠ 0) (hu : (Lib.decDigits u).length ≤ 21) : DecInv u (m / 10) ((48 + UInt8.ofNat (m % 10)) :: t) := by
  rw [show (48 : UInt8) + UInt8.ofNat (m % 10) = UInt8.ofNat (48 + m % 10) by rw [UInt8.ofNat_add]; rfl]
  obtain ⟨h, hl⟩ := h
  rw [if_neg hm] at h
  by_cases h10 : m < 10
  · have e : m / 10 = 0 := by omega
    have e2 : m % 10 = m := by omega
    refine ⟨?_, ?_⟩
    · rw [if_pos e, h, decDigits_lt h10, e2]; rfl
    · rw [h, decDigits_lt h10] at hu; simpa using hu
  · refine ⟨?_, ?_⟩
    · rw [if_neg (by omega), h, decDigits_ge (by omega)]; simp
    · rw [h, decDigits_ge (by omega)] at hu; simp at hu ⊢; omega
theorem specFormatInt_pos (n : Nat) (w : World) (h0 : n ≠ 0) (h1 : n ≤ 9223372036854775807) :
    Calls Tryd.prog 17 #[.int .i64 n] w fun e w' => e = .returned (.string ⟨(Lib.decDigits n).toArray⟩) ∧ Below w.heap.size w w' := by
  have hl : (Lib.decDigits n).length ≤ 21 := by
    have := Lib.itoa_length_le n (by omega) (by omega)
    unfold Lib.itoa at this
    rw [if_neg (by omega)] at this
    simpa using this
  have hz : ((n : Int) == 0) = false := by simpa using h0
  go_enter Tryd.func17, Tryd.ntmps17
  go_wp2
  go_loopw [0, 4] (fun v s wr => ∃ (m : Nat) (t : List UInt8), v = .int .i64 m ∧ s = .string ⟨t.toArray⟩ ∧ m ≤ n ∧ Hid (DecInv n m t) ∧ Below w.heap.size w wr) (fun v _ _ => (intOf v).toNat)
  case atStart => exact ⟨n, [], rfl, rfl, Nat.le_refl _, ⟨by rw [if_neg h0]; simp, by simp⟩, Below.refl _ _⟩
  case round =>
    obtain ⟨m, t, rfl, rfl, hm, hI, hb⟩ := hrel
    by_cases hm0 : m = 0
    · subst hm0
      go_wp2
      go_ret
      exact ⟨by obtain ⟨h, _⟩ := hI.out; rw [if_pos rfl] at h; rw [← h]; rfl, hb⟩
    · have hz2 : ((m : Int) != 0) = true := by simpa using hm0
      have hp : 0 < m := by omega
      have htl := hI.out.2
      have hst := Lib.hid (hI.out.step hm0 hl)
      have hcv := oneByte wr (48 + (m : Int) % 10)
      go_wp2_with (go_at_call 25; refine (l01Figure _ _ (by omega) (by omega)).mono ?_; rintro e w' ⟨rfl, rfl⟩)
      go_roundw
      case rel => exact ⟨m / 10, (48 + UInt8.ofNat (m % 10)) :: t, by simp, by rw [str_add [_] t]; rfl, by omega, hst, hb.alloc hb.size _⟩
      case measure => simp [intOf]; omega
theorem specFormatInt_neg (n : Nat) (w : World) (h0 : n ≠ 0) (h1 : n ≤ 9223372036854775808) :
    Calls Tryd.prog 17 #[.int .i64 (-(n : Int))] w fun e w' => e = .returned (.string ⟨(45 :: Lib.decDigits n).toArray⟩) ∧ Below w.heap.size w w' := by
  have hl : (Lib.decDigits n).length ≤ 21 := by
    have := Lib.itoa_length_le (-(n : Int)) (by omega) (by omega)
    unfold Lib.itoa at this
    rw [if_pos (by omega)] at this
    simp at this
    omega
  have hz : ((-(n : Int)) == 0) = false := by simpa using h0
  go_enter Tryd.func17, Tryd.ntmps17
  go_wp2
  go_loopw [0, 4] (fun v s wr => ∃ (m : Nat) (t : List UInt8), v = .int .i64 (-(m : Int)) ∧ s = .string ⟨t.toArray⟩ ∧ m ≤ n ∧ Hid (DecInv n m t) ∧ Below w.heap.size w wr) (fun v _ _ => (- intOf v).toNat)
  case atStart => exact ⟨n, [], rfl, rfl, Nat.le_refl _, ⟨by rw [if_neg h0]; simp, by simp⟩, Below.refl _ _⟩
  case round =>
    obtain ⟨m, t, rfl, rfl, hm, hI, hb⟩ := hrel
    have htl := hI.out.2
    by_cases hm0 : m = 0
    · subst hm0
      go_wp2
      go_ret
      exact ⟨by obtain ⟨h, _⟩ := hI.out; rw [if_pos rfl] at h; rw [← h]; exact congrArg (fun x => Ending.returned (.string x)) (str_add [45] t), hb⟩
    · have hz2 : ((-(m : Int)) != 0) = true := by simpa using hm0
      have hp : 0 < m := by omega
      have hst := Lib.hid (hI.out.step hm0 hl)
      have ht1 : Int.tmod (-(m : Int)) 10 = -((m % 10 : Nat) : Int) := by rw [Int.neg_tmod]; rfl
      have ht2 : Int.tdiv (-(m : Int)) 10 = -((m / 10 : Nat) : Int) := by rw [Int.neg_tdiv]; rfl
      have hcv := oneByte wr (48 + (m : Int) % 10)
      by_cases hd : m % 10 = 0
      · rw [hd] at hst
        have hcv := oneByte wr 48
        go_wp2_with (go_at_call 25; refine (l01Figure 0 _ (by omega) (by omega)).mono ?_; rintro e w' ⟨rfl, rfl⟩)
        go_roundw
        case rel => exact ⟨m / 10, (48 + UInt8.ofNat 0) :: t, by simp, by rw [str_add [_] t]; rfl, by omega, hst, hb.alloc hb.size _⟩
        case measure => simp [intOf]; omega
      · go_wp2_with (go_at_call 25; refine (l01Figure _ _ (by omega) (by omega)).mono ?_; rintro e w' ⟨rfl, rfl⟩)
        go_roundw
        case rel => exact ⟨m / 10, (48 + UInt8.ofNat (m % 10)) :: t, by simp, by rw [str_add [_] t]; rfl, by omega, hst, hb.alloc hb.size _⟩
        case measure => simp [intOf]; omega
theorem specFormatInt (n : Int) (w : World) (hn : isInt n) :
    Calls Tryd.prog 17 #[.int .i64 n] w fun e w' => e = .returned (.string ⟨(Lib.itoa n).toArray⟩) ∧ Below w.heap.size w w' := by
  obtain ⟨h0, h1⟩ := hn
  by_cases hz : n = 0
  · subst hz
    go_enter Tryd.func17, Tryd.ntmps17
    go_wp2
    go_ret
    exact ⟨by simp [Lib.itoa, decDigits_lt], Below.refl _ _⟩
  · by_cases hneg : n < 0
    · obtain ⟨m, rfl⟩ : ∃ m : Nat, n = -(m : Int) := ⟨n.natAbs, by omega⟩
      have := specFormatInt_neg m w (by omega) (by omega)
      unfold Lib.itoa
      rw [if_pos hneg]
      simpa using this
    · obtain ⟨m, rfl⟩ : ∃ m : Nat, n = (m : Int) := ⟨n.natAbs, by omega⟩
      have := specFormatInt_pos m w (by omega) (by omega)
      unfold Lib.itoa
      rw [if_neg hneg]
      simpa using this
end Go.Proofs.YthdiilcpelioaaaDoor

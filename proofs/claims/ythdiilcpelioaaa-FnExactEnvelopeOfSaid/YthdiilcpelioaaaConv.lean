/- The copies that the laws make of their arguments: slices of numbers, addresses and ledgers. Condition: as many elements as memory takes. -/
import Derived.Test.YthdiilcpelioaaaRec
import Derived.Test.YthdiilcpelioaaaHold
set_option linter.unusedVariables false
set_option linter.unusedSimpArgs false
namespace Go.Proofs.Ythdiilcpelioaaa
open Go.RowKit
def IdR.enc (x : IdR) : List Value := [.int .i64 x.r, .int .i64 x.l, .int .i64 x.i]
def LedR.enc (x : LedR) : List Value := [.int .i64 x.a, .int .i64 x.b, .int .i64 x.c, .int .i64 x.d]
def intEnc (x : Int) : List Value := [.int .i64 x]
/-- A slice of its own block. -/
def own0 (g n : Nat) : Value := .slice (some ⟨g, 0, none⟩) n n
theorem idInfo : (Try.prog.info? 101).map (fun i => (i.zero, i.size, i.bytes)) = some (some (.agg #[.int .i64 0, .int .i64 0, .int .i64 0]), 3, 24) := by kernel_rfl
theorem ledInfo : (Try.prog.info? 77).map (fun i => (i.zero, i.size, i.bytes)) = some (some (.agg #[.int .i64 0, .int .i64 0, .int .i64 0, .int .i64 0]), 4, 32) := by kernel_rfl
theorem enc_flat_take {α : Type} (f : α → List Value) (l : List α) (k : Nat) (h : k < l.length) : ((l.take (k + 1)).map f) = (l.take k).map f ++ [f l[k]] := by
  rw [List.take_succ_eq_append_getElem h, List.map_append]; rfl
theorem Blk.rdId {w : World} {g : Nat} {e : TypeId} {l : List IdR} {T : List Value} (h : Blk w g e ((l.map IdR.enc).flatten ++ T)) : RdId w (some ⟨g, 0, none⟩) l := fun i hi => by
  have hn : ∀ c ∈ l.map IdR.enc, c.length = 3 := by intro c hc; obtain ⟨x, _, rfl⟩ := List.mem_map.1 hc; rfl
  have f := fun j (hj : j < 3) => flat_at hn T (i := i) (by simpa using hi) hj
  refine ⟨g, 0, rfl, h.lt, ?_, ?_, ?_⟩
  · rw [Nat.zero_add]; exact h.cell ((f 0 (by omega)).trans (by simp [IdR.enc]))
  · rw [Nat.zero_add]; exact h.cell ((f 1 (by omega)).trans (by simp [IdR.enc]))
  · rw [Nat.zero_add]; exact h.cell ((f 2 (by omega)).trans (by simp [IdR.enc]))
theorem Blk.rdL {w : World} {g : Nat} {e : TypeId} {l : List LedR} {T : List Value} (h : Blk w g e ((l.map LedR.enc).flatten ++ T)) : RdL w (some ⟨g, 0, none⟩) l := fun i hi => by
  have hn : ∀ c ∈ l.map LedR.enc, c.length = 4 := by intro c hc; obtain ⟨x, _, rfl⟩ := List.mem_map.1 hc; rfl
  have f := fun j (hj : j < 4) => flat_at hn T (i := i) (by simpa using hi) hj
  refine ⟨g, 0, rfl, h.lt, ?_, ?_, ?_, ?_⟩
  · rw [Nat.zero_add]; exact h.cell ((f 0 (by omega)).trans (by simp [LedR.enc]))
  · rw [Nat.zero_add]; exact h.cell ((f 1 (by omega)).trans (by simp [LedR.enc]))
  · rw [Nat.zero_add]; exact h.cell ((f 2 (by omega)).trans (by simp [LedR.enc]))
  · rw [Nat.zero_add]; exact h.cell ((f 3 (by omega)).trans (by simp [LedR.enc]))
theorem Blk.rdI {w : World} {g : Nat} {e : TypeId} {l : List Int} {T : List Value} (h : Blk w g e ((l.map intEnc).flatten ++ T)) : RdI w (some ⟨g, 0, none⟩) l := fun i hi => by
  have hn : ∀ c ∈ l.map intEnc, c.length = 1 := by intro c hc; obtain ⟨x, _, rfl⟩ := List.mem_map.1 hc; rfl
  have f := flat_at hn T (i := i) (by simpa using hi) (j := 0) (by omega)
  rw [Nat.mul_one, Nat.add_zero] at f
  refine ⟨g, 0, rfl, h.lt, ?_⟩
  rw [Nat.zero_add]; exact h.cell (f.trans (by simp [intEnc]))
theorem flat_ints (l : List Int) : (l.map intEnc).flatten = ints l := by
  induction l with
  | nil => rfl
  | cons x l ih => simp [intEnc, ints] at ih ⊢; exact ih
theorem toId (x : IdR) (w : World) :
    Calls Try.prog 96 #[x.v] w fun e w' => e = .returned x.v ∧ Below w.heap.size w w' := by
  unfold IdR.v
  go_enter Try.func96, Try.ntmps96
  go_wp2
  go_returns
  exact ⟨rfl, by go_grown⟩
def LedR.v (x : LedR) : Value := .agg #[.int .i64 x.a, .int .i64 x.b, .int .i64 x.c, .int .i64 x.d]
theorem toLedger (x : LedR) (w : World) :
    Calls Try.prog 40 #[x.v] w fun e w' => e = .returned x.v ∧ Below w.heap.size w w' := by
  unfold LedR.v
  go_enter Try.func40, Try.ntmps40
  go_wp2
  go_returns
  exact ⟨rfl, by go_grown⟩
set_option maxHeartbeats 1000000 in
theorem toIdS (A : Option Addr) (l : List IdR) (c : Nat) (w : World) (hr : RdId w A l) (hl : l.length * 24 ≤ 140737488355328) :
    Calls Try.prog 80 #[.slice A l.length c] w fun e w' => ∃ g, e = .returned (own0 g l.length) ∧ w.heap.size ≤ g ∧ Blk w' g 101 (l.map IdR.enc).flatten ∧ Below w.heap.size w w' := by
  obtain ⟨i0, hi, hz0, hz1, hz2⟩ := info_parts idInfo
  go_enter Try.func80, Try.ntmps80
  go_wp2_with (at_make; refine wpList_make_full _ rfl _ _ 29 rfl w.heap.size 101 i0 _ 3 Try.underlying29 hi hz0 hz1 .i64 .i64 _ _ l.length rfl rfl rfl rfl ?c1 ?c2 ?c3 ?_)
  case c1 => rw [hz2]; omega
  case c2 => unfold maxLen; omega
  case c3 => exact Nat.le_refl _
  intro w1 hown hgr
  have hB := Blk.ofOwn hown
  rw [show (madeCells #[.int .i64 0, .int .i64 0, .int .i64 0] (l.length * 3)).toList = (List.replicate l.length [.int .i64 0, .int .i64 0, .int .i64 0]).flatten from made_flat [.int .i64 0, .int .i64 0, .int .i64 0] l.length (by decide)] at hB
  have hbl : Below w.heap.size w w1 := (Below.refl _ w).grown hgr (Nat.le_refl _) (fun k hk => by cases hk)
  clear hown hgr
  go_wp2
  go_loopw [4] (fun i wr => ∃ k : Nat, k ≤ l.length ∧ i = .int .i64 k ∧ Blk wr w.heap.size 101 (((l.take k).map IdR.enc).flatten ++ (List.replicate (l.length - k) [.int .i64 0, .int .i64 0, .int .i64 0]).flatten) ∧ Below w.heap.size w wr) (fun i _ => l.length - (intOf i).toNat)
  case atStart => exact ⟨0, Nat.zero_le _, rfl, by simpa using hB, hbl⟩
  case round =>
    obtain ⟨k, hk, rfl, hR, hbr⟩ := hrel
    by_cases hlt : k < l.length
    · obtain ⟨b, o, rfl, hab, c0, c1, c2⟩ := (hr.on hbr) k hlt
      have hn : ∀ c ∈ (l.take k).map IdR.enc, c.length = 3 := by intro c hc; obtain ⟨x, _, rfl⟩ := List.mem_map.1 hc; rfl
      have hlen : ((l.take k).map IdR.enc).length = k := by simp; omega
      go_wp2_with (go_at_call 96; refine (toId l[k] _).mono ?_)
      rintro e w2 ⟨rfl, hb2⟩
      have hbw := hbr.trans (hb2.mono hbr.size)
      replace hR := hR.on hb2
      have d0 : w2.cell? ⟨w.heap.size, k * 3, none⟩ = some (.int .i64 0) := hR.spare (zs := [.int .i64 0, .int .i64 0, .int .i64 0]) hlt rfl hn hlen (j := 0) rfl
      have f0 := hR.frozen (k * 3)
      have d1 : w2.cell? ⟨w.heap.size, k * 3 + 1, none⟩ = some (.int .i64 0) := hR.spare (zs := [.int .i64 0, .int .i64 0, .int .i64 0]) hlt rfl hn hlen (j := 1) rfl
      have f1 := hR.frozen (k * 3 + 1)
      have d2 : w2.cell? ⟨w.heap.size, k * 3 + 2, none⟩ = some (.int .i64 0) := hR.spare (zs := [.int .i64 0, .int .i64 0, .int .i64 0]) hlt rfl hn hlen (j := 2) rfl
      have f2 := hR.frozen (k * 3 + 2)
      unfold IdR.v
      have hn' := Lib.hid hn
      have hl' := Lib.hid hlen
      have HR := Lib.hid hR
      have HW := Lib.hid hbw
      clear hR hbw hn hlen
      go_wp2
      go_roundw
      case rel =>
        have S := HR.out.fill (f := IdR.enc l[k]) hlt rfl hn'.out hl'.out rfl
        refine ⟨k + 1, by omega, by go_num, ?_, below_sets (Nat.le_refl _) (IdR.enc l[k]) _ HW.out⟩
        rw [enc_flat_take _ l k hlt]
        exact S
      case measure => simp [intOf]; omega
    · have hkl : k = l.length := by omega
      go_wp2
      go_ret
      refine ⟨w.heap.size, rfl, Nat.le_refl _, ?_, hbr⟩
      rw [hkl, List.take_length] at hR
      simpa using hR
set_option maxHeartbeats 1000000 in
theorem toLedgerS (A : Option Addr) (l : List LedR) (c : Nat) (w : World) (hr : RdL w A l) (hl : l.length * 32 ≤ 140737488355328) :
    Calls Try.prog 15 #[.slice A l.length c] w fun e w' => ∃ g, e = .returned (own0 g l.length) ∧ w.heap.size ≤ g ∧ Blk w' g 77 (l.map LedR.enc).flatten ∧ Below w.heap.size w w' := by
  obtain ⟨i0, hi, hz0, hz1, hz2⟩ := info_parts ledInfo
  go_enter Try.func15, Try.ntmps15
  go_wp2_with (at_make; refine wpList_make_full _ rfl _ _ 43 rfl w.heap.size 77 i0 _ 4 Try.underlying43 hi hz0 hz1 .i64 .i64 _ _ l.length rfl rfl rfl rfl ?c1 ?c2 ?c3 ?_)
  case c1 => rw [hz2]; omega
  case c2 => unfold maxLen; omega
  case c3 => exact Nat.le_refl _
  intro w1 hown hgr
  have hB := Blk.ofOwn hown
  rw [show (madeCells #[.int .i64 0, .int .i64 0, .int .i64 0, .int .i64 0] (l.length * 4)).toList = (List.replicate l.length [.int .i64 0, .int .i64 0, .int .i64 0, .int .i64 0]).flatten from made_flat [.int .i64 0, .int .i64 0, .int .i64 0, .int .i64 0] l.length (by decide)] at hB
  have hbl : Below w.heap.size w w1 := (Below.refl _ w).grown hgr (Nat.le_refl _) (fun k hk => by cases hk)
  clear hown hgr
  go_wp2
  go_loopw [4] (fun i wr => ∃ k : Nat, k ≤ l.length ∧ i = .int .i64 k ∧ Blk wr w.heap.size 77 (((l.take k).map LedR.enc).flatten ++ (List.replicate (l.length - k) [.int .i64 0, .int .i64 0, .int .i64 0, .int .i64 0]).flatten) ∧ Below w.heap.size w wr) (fun i _ => l.length - (intOf i).toNat)
  case atStart => exact ⟨0, Nat.zero_le _, rfl, by simpa using hB, hbl⟩
  case round =>
    obtain ⟨k, hk, rfl, hR, hbr⟩ := hrel
    by_cases hlt : k < l.length
    · obtain ⟨b, o, rfl, hab, c0, c1, c2, c3⟩ := (hr.on hbr) k hlt
      have hn : ∀ c ∈ (l.take k).map LedR.enc, c.length = 4 := by intro c hc; obtain ⟨x, _, rfl⟩ := List.mem_map.1 hc; rfl
      have hlen : ((l.take k).map LedR.enc).length = k := by simp; omega
      go_wp2_with (go_at_call 40; refine (toLedger l[k] _).mono ?_)
      rintro e w2 ⟨rfl, hb2⟩
      have hbw := hbr.trans (hb2.mono hbr.size)
      replace hR := hR.on hb2
      have d0 : w2.cell? ⟨w.heap.size, k * 4, none⟩ = some (.int .i64 0) := hR.spare (zs := [.int .i64 0, .int .i64 0, .int .i64 0, .int .i64 0]) hlt rfl hn hlen (j := 0) rfl
      have f0 := hR.frozen (k * 4)
      have d1 : w2.cell? ⟨w.heap.size, k * 4 + 1, none⟩ = some (.int .i64 0) := hR.spare (zs := [.int .i64 0, .int .i64 0, .int .i64 0, .int .i64 0]) hlt rfl hn hlen (j := 1) rfl
      have f1 := hR.frozen (k * 4 + 1)
      have d2 : w2.cell? ⟨w.heap.size, k * 4 + 2, none⟩ = some (.int .i64 0) := hR.spare (zs := [.int .i64 0, .int .i64 0, .int .i64 0, .int .i64 0]) hlt rfl hn hlen (j := 2) rfl
      have f2 := hR.frozen (k * 4 + 2)
      have d3 : w2.cell? ⟨w.heap.size, k * 4 + 3, none⟩ = some (.int .i64 0) := hR.spare (zs := [.int .i64 0, .int .i64 0, .int .i64 0, .int .i64 0]) hlt rfl hn hlen (j := 3) rfl
      have f3 := hR.frozen (k * 4 + 3)
      unfold LedR.v
      have hn' := Lib.hid hn
      have hl' := Lib.hid hlen
      have HR := Lib.hid hR
      have HW := Lib.hid hbw
      clear hR hbw hn hlen
      go_wp2
      go_roundw
      case rel =>
        have S := HR.out.fill (f := LedR.enc l[k]) hlt rfl hn'.out hl'.out rfl
        refine ⟨k + 1, by omega, by go_num, ?_, below_sets (Nat.le_refl _) (LedR.enc l[k]) _ HW.out⟩
        rw [enc_flat_take _ l k hlt]
        exact S
      case measure => simp [intOf]; omega
    · have hkl : k = l.length := by omega
      go_wp2
      go_ret
      refine ⟨w.heap.size, rfl, Nat.le_refl _, ?_, hbr⟩
      rw [hkl, List.take_length] at hR
      simpa using hR
set_option maxHeartbeats 1000000 in
theorem toIntS (A : Option Addr) (l : List Int) (c : Nat) (w : World) (hr : RdI w A l) (hl : l.length * 8 ≤ 140737488355328) :
    Calls Try.prog 62 #[.slice A l.length c] w fun e w' => ∃ g, e = .returned (own0 g l.length) ∧ w.heap.size ≤ g ∧ Blk w' g 3 (l.map intEnc).flatten ∧ Below w.heap.size w w' := by
  obtain ⟨i0, hi, hz0, hz1, hz2⟩ := info_parts intInfo
  go_enter Try.func62, Try.ntmps62
  go_wp2_with (at_make; refine wpList_make_full _ rfl _ _ 26 rfl w.heap.size 3 i0 _ 1 Try.underlying26 hi hz0 hz1 .i64 .i64 _ _ l.length rfl rfl rfl rfl ?c1 ?c2 ?c3 ?_)
  case c1 => rw [hz2]; omega
  case c2 => unfold maxLen; omega
  case c3 => exact Nat.le_refl _
  intro w1 hown hgr
  have hB := Blk.ofOwn hown
  rw [show (madeCells #[.int .i64 0] l.length).toList = (List.replicate l.length [.int .i64 0]).flatten from by have := made_flat [.int .i64 0] l.length (by decide); simpa using this] at hB
  have hbl : Below w.heap.size w w1 := (Below.refl _ w).grown hgr (Nat.le_refl _) (fun k hk => by cases hk)
  clear hown hgr
  go_wp2
  go_loopw [4] (fun i wr => ∃ k : Nat, k ≤ l.length ∧ i = .int .i64 k ∧ Blk wr w.heap.size 3 (((l.take k).map intEnc).flatten ++ (List.replicate (l.length - k) [.int .i64 0]).flatten) ∧ Below w.heap.size w wr) (fun i _ => l.length - (intOf i).toNat)
  case atStart => exact ⟨0, Nat.zero_le _, rfl, by simpa using hB, hbl⟩
  case round =>
    obtain ⟨k, hk, rfl, hR, hbr⟩ := hrel
    by_cases hlt : k < l.length
    · obtain ⟨b, o, rfl, hab, c0⟩ := (hr.on hbr) k hlt
      have hn : ∀ c ∈ (l.take k).map intEnc, c.length = 1 := by intro c hc; obtain ⟨x, _, rfl⟩ := List.mem_map.1 hc; rfl
      have hlen : ((l.take k).map intEnc).length = k := by simp; omega
      have hbw := hbr
      have d0 : wr.cell? ⟨w.heap.size, k, none⟩ = some (.int .i64 0) := by have := hR.spare (zs := [.int .i64 0]) (n := 1) hlt rfl hn hlen (j := 0) rfl; simpa using this
      have f0 := hR.frozen k
      have hn' := Lib.hid hn
      have hl' := Lib.hid hlen
      have HR := Lib.hid hR
      have HW := Lib.hid hbw
      clear hR hbw hn hlen
      go_wp2
      go_roundw
      case rel =>
        have S := HR.out.fill (n := 1) (f := intEnc l[k]) hlt rfl hn'.out hl'.out rfl
        refine ⟨k + 1, by omega, by go_num, ?_, below_sets (Nat.le_refl _) (intEnc l[k]) _ HW.out⟩
        rw [enc_flat_take _ l k hlt]
        rw [Nat.mul_one] at S
        exact S
      case measure => simp [intOf]; omega
    · have hkl : k = l.length := by omega
      go_wp2
      go_ret
      refine ⟨w.heap.size, rfl, Nat.le_refl _, ?_, hbr⟩
      rw [hkl, List.take_length] at hR
      simpa using hR
end Go.Proofs.Ythdiilcpelioaaa

/- Valid states, by the reference and by the program. Condition: as many elements as memory takes. -/
import Derived.Test.YthdiilcpelioaaaSum
set_option linter.unusedVariables false
set_option linter.unusedSimpArgs false
namespace Go.Proofs.Ythdiilcpelioaaa
open Go.RowKit
structure StateR where
  roots : Int
  leaves : List IdR
  mass : List Int
  tracer : List Int
  bed : List Int
instance : Inhabited StateR := ⟨⟨0, [], [], [], []⟩⟩
/-- Where a state's slices lie, and their room. -/
structure At4 where
  A1 : Option Addr
  c1 : Nat
  A2 : Option Addr
  c2 : Nat
  A3 : Option Addr
  c3 : Nat
  A4 : Option Addr
  c4 : Nat
def StateR.cs (s : StateR) (p : At4) : List Value := [.int .i64 s.roots, .slice p.A1 s.leaves.length p.c1, .slice p.A2 s.mass.length p.c2, .slice p.A3 s.tracer.length p.c3, .slice p.A4 s.bed.length p.c4]
def StateR.v (s : StateR) (p : At4) : Value := .agg (s.cs p).toArray
structure RdS (w : World) (s : StateR) (p : At4) : Prop where
  h1 : RdId w p.A1 s.leaves
  h2 : RdI w p.A2 s.mass
  h3 : RdI w p.A3 s.tracer
  h4 : RdI w p.A4 s.bed
theorem RdS.on {w w' : World} {s : StateR} {p : At4} (h : RdS w s p) (hb : Below w.heap.size w w') : RdS w' s p := ⟨h.h1.on hb, h.h2.on hb, h.h3.on hb, h.h4.on hb⟩
/-- As many elements as memory takes. -/
structure StateR.fits (s : StateR) : Prop where
  f1 : s.leaves.length ≤ 1000000000000000
  f2 : s.mass.length ≤ 1000000000000000
  f3 : s.tracer.length ≤ 1000000000000000
  f4 : s.bed.length ≤ 1000000000000000
def cellOk (m t : Int) : Bool := inR m 0 10000000 && inR t 0 (1000 * m)
def cellsOk (m t : List Int) : Bool := (List.range m.length).all fun i => cellOk (m.getD i 0) (t.getD i 0)
theorem getI {l : List Int} {i : Nat} (h : i < l.length) : l.getD i 0 = l[i] := by
  rw [List.getD_eq_getElem?_getD, List.getElem?_eq_getElem h]; rfl
theorem cellsOk_no {m t : List Int} {k : Nat} (hk : k < m.length) (ht : k < t.length) (h : cellOk m[k] t[k] = false) : cellsOk m t = false := by
  unfold cellsOk
  rw [List.all_eq_false]
  exact ⟨k, List.mem_range.2 hk, by rw [getI hk, getI ht, h]; simp⟩
theorem cellsOk_yes {m t : List Int} (ht : t.length = m.length) (h : ∀ i (hi : i < m.length) (hj : i < t.length), cellOk m[i] t[i] = true) : cellsOk m t = true := by
  unfold cellsOk
  rw [List.all_eq_true]
  intro i hi
  have hi' := List.mem_range.1 hi
  rw [getI hi', getI (by omega)]
  exact h i hi' (by omega)
def StateR.has (s : StateR) : Bool := decide (s.mass.length = s.leaves.length) && (decide (s.tracer.length = s.leaves.length) && (decide ((s.bed.length : Int) = s.roots) && (bedOk s.bed && (cellsOk s.mass s.tracer && decide (sumW s.mass ≤ 10000000)))))
def StateR.fine (s : StateR) : Bool := balOk s.roots s.leaves && s.has
set_option maxHeartbeats 2000000 in
theorem implHas (s : StateR) (p : At4) (w : World) (hr : RdS w s p) (hf : s.fits) :
    Calls Try.prog 55 #[s.v p] w fun e w' => e = .returned (.bool s.has) ∧ Below w.heap.size w w' := by
  obtain ⟨roots, leaves, mass, tracer, bed⟩ := s
  obtain ⟨A1, c1, A2, c2, A3, c3, A4, c4⟩ := p
  unfold StateR.v StateR.cs
  obtain ⟨q1, q2, q3, q4⟩ := hr
  obtain ⟨f1, f2, f3, f4⟩ := hf
  dsimp only at q1 q2 q3 q4 f1 f2 f3 f4 ⊢
  go_enter Try.func55, Try.ntmps55
  have hb0 := below_new w (.cells #[.int .i64 roots, .slice A1 leaves.length c1, .slice A2 mass.length c2, .slice A3 tracer.length c3, .slice A4 bed.length c4] 33)
  have r2 := q2.on hb0
  have r3 := q3.on hb0
  have r4 := q4.on hb0
  by_cases h1 : mass.length = leaves.length
  · by_cases h2 : tracer.length = leaves.length
    · by_cases h3 : (bed.length : Int) = roots
      · cases h4 : bedOk bed
        · have e1 : ((mass.length : Int) != (leaves.length : Int)) = false := by simp [h1]
          have e2 : ((tracer.length : Int) != (leaves.length : Int)) = false := by simp [h2]
          have e3 : ((bed.length : Int) != roots) = false := by simp [h3]
          have hres := Lib.hid (show (StateR.mk roots leaves mass tracer bed).has = false by simp [StateR.has, h4])
          clear h1 h2 h3
          go_wp2_with (go_at_call 72; refine (containsBad A4 bed c4 _ _ r4 f4 h4).mono ?_; rintro e w1 ⟨rfl, rfl⟩)
          go_ret
          exact ⟨by rw [hres.out]; rfl, hb0⟩
        · have e1 : ((mass.length : Int) != (leaves.length : Int)) = false := by simp [h1]
          have e2 : ((tracer.length : Int) != (leaves.length : Int)) = false := by simp [h2]
          have e3 : ((bed.length : Int) != roots) = false := by simp [h3]
          have hres : ∀ b c, cellsOk mass tracer = b → decide (sumW mass ≤ 10000000) = c → (StateR.mk roots leaves mass tracer bed).has = (b && c) := fun b c hb hc => by simp only [StateR.has, h1, h2, h3, h4, hb, hc]; simp
          have hR := Lib.hid hres
          have hT := Lib.hid (show tracer.length = mass.length by omega)
          clear h1 h2 h3 hres
          go_wp2_with (go_at_call 72; refine (containsBad A4 bed c4 _ _ r4 f4 h4).mono ?_; rintro e w1 ⟨rfl, rfl⟩)
          go_loop [39] (fun i => ∃ k : Nat, k ≤ mass.length ∧ i = .int .i64 k ∧ Hid (∀ i (hi : i < mass.length) (hj : i < tracer.length), i < k → cellOk mass[i] tracer[i] = true)) (fun i => mass.length - (intOf i).toNat)
          case atStart => exact ⟨0, Nat.zero_le _, rfl, Lib.hid (fun i h h' h'' => by omega)⟩
          case round =>
            obtain ⟨k, hk, rfl, hall⟩ := hrel
            by_cases hlt : k < mass.length
            · have hlt2 : k < tracer.length := by rw [hT.out]; exact hlt
              obtain ⟨b, o, rfl, hab, x0⟩ := r2 k hlt
              obtain ⟨b', o', rfl, hab', y0⟩ := r3 k hlt2
              cases g1 : inR mass[k] 0 10000000
              · have hno := Lib.hid (hR.out false _ (cellsOk_no hlt hlt2 (by simp [cellOk, g1])) rfl)
                go_wp2_with (go_at_call 31; (with_reducible refine (within _ _ _ _ _ g1).mono ?_); rintro e w1 ⟨rfl, rfl⟩)
                go_ret
                exact ⟨by rw [hno.out]; rfl, hb0⟩
              · have hm := inR_true.1 g1
                cases g2 : inR tracer[k] 0 (1000 * mass[k])
                · have hno := Lib.hid (hR.out false _ (cellsOk_no hlt hlt2 (by simp [cellOk, g2])) rfl)
                  go_wp2_with (first
                    | (go_at_call 31; (with_reducible refine (within _ _ _ _ _ g1).mono ?_); rintro e w1 ⟨rfl, rfl⟩)
                    | (go_at_call 31; (with_reducible refine (within _ _ _ _ _ g2).mono ?_); rintro e w1 ⟨rfl, rfl⟩))
                  go_ret
                  exact ⟨by rw [hno.out]; rfl, hb0⟩
                · go_wp2_with (first
                    | (go_at_call 31; (with_reducible refine (within _ _ _ _ _ g1).mono ?_); rintro e w1 ⟨rfl, rfl⟩)
                    | (go_at_call 31; (with_reducible refine (within _ _ _ _ _ g2).mono ?_); rintro e w1 ⟨rfl, rfl⟩))
                  go_round
                  case rel =>
                    refine ⟨k + 1, by omega, by go_num, Lib.hid (fun i hi hj h' => ?_)⟩
                    by_cases hik : i < k
                    · exact hall.out i hi hj hik
                    · obtain rfl : i = k := by omega
                      rw [cellOk, g1, g2]; rfl
                  case measure => simp [intOf]; omega
            · have hyes := Lib.hid (hR.out true _ (cellsOk_yes hT.out (fun i hi hj => hall.out i hi hj (by omega))) rfl)
              go_wp2_with (go_at_call 75; refine (implSum A2 mass c2 _ r2 f2).mono ?_; rintro e w1 ⟨rfl, rfl⟩)
              go_ret
              exact ⟨by rw [hyes.out]; rfl, hb0⟩
      · have e1 : ((mass.length : Int) != (leaves.length : Int)) = false := by simp [h1]
        have e2 : ((tracer.length : Int) != (leaves.length : Int)) = false := by simp [h2]
        have e3 : ((bed.length : Int) != roots) = true := by simpa using h3
        have hres := Lib.hid (show (StateR.mk roots leaves mass tracer bed).has = false by simp [StateR.has, h3])
        clear h1 h2 h3
        go_wp2
        go_ret
        exact ⟨by rw [hres.out]; rfl, hb0⟩
    · have e1 : ((mass.length : Int) != (leaves.length : Int)) = false := by simp [h1]
      have e2 : ((tracer.length : Int) != (leaves.length : Int)) = true := by simp; omega
      have hres := Lib.hid (show (StateR.mk roots leaves mass tracer bed).has = false by simp [StateR.has, h2])
      clear h1 h2
      go_wp2
      go_ret
      exact ⟨by rw [hres.out]; rfl, hb0⟩
  · have e1 : ((mass.length : Int) != (leaves.length : Int)) = true := by simp; omega
    have hres := Lib.hid (show (StateR.mk roots leaves mass tracer bed).has = false by simp [StateR.has, h1])
    clear h1
    go_wp2
    go_ret
    exact ⟨by rw [hres.out]; rfl, hb0⟩
set_option maxHeartbeats 1000000 in
theorem implStateOk (s : StateR) (p : At4) (v : Bool) (w : World) (hr : RdS w s p) (hf : s.fits) (h : s.fine = v) :
    Calls Try.prog 34 #[s.v p] w fun e w' => e = .returned (.bool v) ∧ Below w.heap.size w w' := by
  subst h
  have hH := implHas s p
  unfold StateR.v StateR.cs at hH ⊢
  unfold StateR.fine
  go_enter Try.func34, Try.ntmps34
  have hb0 := below_new w (.cells #[.int .i64 s.roots, .slice p.A1 s.leaves.length p.c1, .slice p.A2 s.mass.length p.c2, .slice p.A3 s.tracer.length p.c3, .slice p.A4 s.bed.length p.c4] 33)
  have hK := Blk.new w 33 [.int .i64 s.roots, .slice p.A1 s.leaves.length p.c1, .slice p.A2 s.mass.length p.c2, .slice p.A3 s.tracer.length p.c3, .slice p.A4 s.bed.length p.c4]
  have hr0 := hr.on hb0
  cases hb : balOk s.roots s.leaves
  · go_wp2_with (go_at_call 54; refine (implBalanced s.roots p.A1 s.leaves p.c1 _ _ hr0.h1 hf.f1 hb).mono ?_; rintro e w1 ⟨rfl, hb1⟩)
    go_ret
    exact ⟨by simp, hb0.trans (hb1.mono hb0.size)⟩
  · go_wp2_with (first
      | (go_at_call 54; refine (implBalanced s.roots p.A1 s.leaves p.c1 _ _ hr0.h1 hf.f1 hb).mono ?_; rintro e w1 ⟨rfl, hb1⟩; have k1 := hK.on hb1; have n0 := k1.cell (i := 0) rfl; have n1 := k1.cell (i := 1) rfl; have n2 := k1.cell (i := 2) rfl; have n3 := k1.cell (i := 3) rfl; have n4 := k1.cell (i := 4) rfl; have hw1 := Lib.hid (hb0.trans (hb1.mono hb0.size)))
      | (go_at_call 55; refine (hH _ (hr0.on hb1) hf).mono ?_; rintro e w2 ⟨rfl, hb2⟩; have hw2 := hw1.out.trans (hb2.mono hw1.out.size)))
    go_ret
    exact ⟨by simp, hw2⟩
end Go.Proofs.Ythdiilcpelioaaa

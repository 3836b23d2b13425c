/- What DecompressList computes, in plain terms; the program's walk. -/
import Derived.Test.YthdiilcpelioaaaMesh
set_option linter.unusedVariables false
set_option linter.unusedSimpArgs false
namespace Go.Proofs.Ythdiilcpelioaaa
open Go.RowKit
/-- A slice of ints that reads as l. -/
def RdI (w : World) (A : Option Addr) (l : List Int) : Prop := ∀ (i : Nat) (h : i < l.length), ∃ b o, A = some ⟨b, o, none⟩ ∧ b < w.heap.size ∧ w.cell? ⟨b, o + i, none⟩ = some (.int .i64 l[i])
theorem RdI.on {w w' : World} {A : Option Addr} {l : List Int} (h : RdI w A l) (hb : Below w.heap.size w w') : RdI w' A l := fun i hi => by
  obtain ⟨b, o, e, hlt, h0⟩ := h i hi
  exact ⟨b, o, e, Nat.lt_of_lt_of_le hlt hb.size, cell_on hb h0⟩
def top : Int := 10000000
def ints (l : List Int) : List Value := l.map (Value.int .i64)
theorem ints_snoc (l : List Int) (x : Int) : ints (l ++ [x]) = ints l ++ [.int .i64 x] := by simp [ints]
def runN (q s : Int) : Nat → Int × List Int → Option (Int × List Int)
  | 0, p => some p
  | n + 1, p => (runN q s n p).bind fun r => if inR (r.1 + s) 0 10000000 = true then some (r.1 + s, r.2 ++ [q * (r.1 + s)]) else none
def pairOk (l : List Int) (j : Nat) (n : Nat) : Bool := inR (l.getD (2 * j) 0) 1 (1000 - n) && (!(decide (0 < j) && decide (l.getD (2 * j + 1) 0 = l.getD (2 * j - 1) 0)) && inR (l.getD (2 * j + 1) 0) (-10000000) 10000000)
def decP (q : Int) (l : List Int) : Nat → Option (Int × List Int)
  | 0 => some (0, [])
  | j + 1 => (decP q l j).bind fun p => if pairOk l j p.2.length = true then runN q (l.getD (2 * j + 1) 0) (l.getD (2 * j) 0).toNat p else none
def dec (q : Int) (l : List Int) : Option (List Int) := if inR q 1 1000000 = true ∧ l.length % 2 = 0 ∧ l.length ≤ 2000 then (decP q l (l.length / 2)).map (·.2) else none
theorem runN_stop {q s : Int} {k n : Nat} (hkn : k ≤ n) {p : Int × List Int} (h : runN q s k p = none) : runN q s n p = none := by
  induction n with
  | zero => obtain rfl : k = 0 := by omega
            exact h
  | succ n ih =>
    by_cases e : k = n + 1
    · subst e; exact h
    · rw [runN, ih (by omega)]; rfl
theorem decP_stop {q : Int} {l : List Int} {k n : Nat} (hkn : k ≤ n) (h : decP q l k = none) : decP q l n = none := by
  induction n with
  | zero => obtain rfl : k = 0 := by omega
            exact h
  | succ n ih =>
    by_cases e : k = n + 1
    · subst e; exact h
    · rw [decP, ih (by omega)]; rfl
theorem runN_len {q s : Int} {n : Nat} {p r : Int × List Int} (h : runN q s n p = some r) : r.2.length = p.2.length + n := by
  induction n generalizing r with
  | zero => simp [runN] at h; subst h; rfl
  | succ n ih =>
    rw [runN] at h
    cases h1 : runN q s n p with
    | none => rw [h1] at h; cases h
    | some r1 =>
      rw [h1] at h
      simp only [Option.bind_some] at h
      split at h
      · cases h
        simp [ih h1]; omega
      · cases h
theorem runN_in {q s : Int} {n : Nat} {p r : Int × List Int} (hp : 0 ≤ p.1 ∧ p.1 ≤ 10000000) (h : runN q s n p = some r) : 0 ≤ r.1 ∧ r.1 ≤ 10000000 := by
  cases n with
  | zero => simp [runN] at h; subst h; exact hp
  | succ n =>
    rw [runN] at h
    cases h1 : runN q s n p with
    | none => rw [h1] at h; cases h
    | some r1 =>
      rw [h1] at h
      simp only [Option.bind_some] at h
      split at h
      · cases h
        rename_i hh
        exact inR_true.1 hh
      · cases h
theorem isQuantum (q : Int) (v : Bool) (w : World) (h : inR q 1 1000000 = v) :
    Calls Try.prog 81 #[.int .i64 q] w fun e w' => e = .returned (.bool v) ∧ w' = w := by
  go_enter Try.func81, Try.ntmps81
  go_wp2_with (go_at_call 31; refine (within _ _ _ _ _ h).mono ?_; rintro e w1 ⟨rfl, rfl⟩)
  go_ret
  exact ⟨by simp, rfl⟩
theorem isMass (n : Int) (v : Bool) (w : World) (h : inR n 0 10000000 = v) :
    Calls Try.prog 82 #[.int .i64 n] w fun e w' => e = .returned (.bool v) ∧ w' = w := by
  go_enter Try.func82, Try.ntmps82
  go_wp2_with (go_at_call 31; refine (within _ _ _ _ _ h).mono ?_; rintro e w1 ⟨rfl, rfl⟩)
  go_ret
  exact ⟨by simp, rfl⟩
/-- What a call of DecompressList hands back. -/
def DecOut (r : Option (List Int)) (w w' : World) (v : Value) : Prop := match r with
  | none => ∃ A n c, v = .tuple #[.slice A n c, .bool false]
  | some out => ∃ u, v = .tuple #[u, .bool true] ∧ w'.ownsRow w.heap.size 3 1 u out.length (ints out)
theorem own_slice {w : World} {B k n : Nat} {e : TypeId} {v : Value} {xs : List Value} (h : w.ownsRow B e k v n xs) : ∃ ao cap, v = .slice ao n cap := by
  rcases h.2 with ⟨rfl, rfl⟩ | ⟨g, cap, cur, rfl, _⟩
  · exact ⟨_, _, rfl⟩
  · exact ⟨_, _, rfl⟩
theorem dec_none {q : Int} {l : List Int} {j : Nat} (hj : 2 * j < l.length) (h2 : l.length % 2 = 0) (h : decP q l (j + 1) = none) : dec q l = none := by
  unfold dec
  rw [decP_stop (k := j + 1) (by omega) h]
  simp
theorem one_new (w : World) (v : Value) (t : TypeId) : ∀ (j : Nat) (u : Value), [v][j]? = some u → (w.alloc (.cells #[v] t)).cell? ((⟨w.heap.size, 0, none⟩ : Addr).add j) = some u := by
  intro j u h
  cases j with
  | zero =>
    simp at h
    subst h
    exact Lib.cell_of_heap (heap_alloc_new w _) _
  | succ j => simp at h
theorem intInfo : (Try.prog.info? 3).map (fun i => (i.zero, i.size, i.bytes)) = some (some (.int .i64 0), 1, 8) := by kernel_rfl
set_option maxHeartbeats 4000000 in
set_option maxRecDepth 100000 in
theorem implDec (q : Int) (A : Option Addr) (l : List Int) (c : Nat) (w : World) (hr : RdI w A l) :
    Calls Try.prog 63 #[.slice A l.length c, .int .i64 q] w fun e w' => (∃ v, e = .returned v ∧ DecOut (dec q l) w w' v) ∧ Below w.heap.size w w' := by
  obtain ⟨i0, hi, hz0, hz1, hz2⟩ := info_parts intInfo
  cases hq : inR q 1 1000000
  · go_enter Try.func63, Try.ntmps63
    go_wp2_with (go_at_call 81; refine (isQuantum _ _ _ hq).mono ?_; rintro e w1 ⟨rfl, rfl⟩)
    go_ret2
    exact ⟨⟨_, rfl, by simp [dec, hq, DecOut]⟩, Below.refl _ _⟩
  have hqb := inR_true.1 hq
  by_cases h2 : l.length % 2 = 0
  · by_cases h3 : l.length ≤ 2000
    · go_enter Try.func63, Try.ntmps63
      have t2 : (l.length : Int).tmod 2 = 0 := by have := Int.ofNat_tmod l.length 2; rw [h2] at this; simpa using this.symm
      have t3 : decide ((2000 : Int) < (l.length : Int)) = false := decide_eq_false (by omega)
      go_wp2_with (go_at_call 81; refine (isQuantum _ _ _ hq).mono ?_; rintro e w1 ⟨rfl, rfl⟩)
      have hown0 : (w1.alloc (.cells #[] 3)).ownsRow w1.heap.size 3 1 (.slice (some ⟨w1.heap.size, 0, none⟩) 0 0) 0 [] := World.ownsRow_made w1 #[] 0 (Nat.le_refl _) (by unfold maxLen; omega) (by simp)
      go_loopw [6, 7, 8] (fun o x i wr => ∃ (j k : Nat) (now : Int) (out : List Int), Hid (k = 2 * j) ∧ k ≤ l.length ∧ i = .int .i64 k ∧ x = .int .i64 now ∧ (0 ≤ now ∧ now ≤ 10000000) ∧ out.length ≤ 1000 ∧ Hid (decP q l j = some (now, out)) ∧ wr.ownsRow w1.heap.size 3 1 o out.length (ints out) ∧ Below w1.heap.size w1 wr) (fun _ _ i _ => l.length - (intOf i).toNat)
      case atStart => exact ⟨0, 0, 0, [], Lib.hid rfl, Nat.zero_le _, rfl, rfl, by omega, by simp, Lib.hid rfl, hown0, below_new w1 _⟩
      case round =>
        obtain ⟨j, k, now, out, hkj, hk, rfl, rfl, hnow, hout, hP, hown, hbr⟩ := hrel
        by_cases hlt : k < l.length
        · have hlt1 : k + 1 < l.length := by have := hkj.out; omega
          obtain ⟨b, o, rfl, hab, c0⟩ := (hr.on hbr) k hlt
          obtain ⟨b', o', heq, _, c1⟩ := (hr.on hbr) (k + 1) hlt1
          simp only [Option.some.injEq, Addr.mk.injEq, and_true] at heq
          obtain ⟨rfl, rfl⟩ := heq
          have ⟨a, ha⟩ : ∃ a, Hid (l[k] = a) := ⟨_, Lib.hid rfl⟩
          have ⟨s, hs⟩ : ∃ s, Hid (l[k + 1] = s) := ⟨_, Lib.hid rfl⟩
          rw [ha.out] at c0
          rw [hs.out] at c1
          have s0 : IntKind.i64.wrap ((k : Int) + 1) = (k : Int) + 1 := IntWalk.i64_in _ (by omega)
          have s1 : ((k : Int) + 1).toNat = k + 1 := by omega
          have s2 : (0 : Int) ≤ (k : Int) + 1 := by omega
          have s3 : (k : Int) + 1 < (l.length : Int) := by omega
          have s4 : (0 : Int) ≤ (k : Int) := by omega
          have s5 : (k : Int) < (l.length : Int) := by omega
          obtain ⟨ao, cap, rfl⟩ := own_slice hown
          go_wp2_with fail
          go_quiet (fail)
          have hbq : Below w1.heap.size w1 (wr.drewN nq) := below_drewN hbr nq
          have hoq : (wr.drewN nq).ownsRow w1.heap.size 3 1 (.slice ao out.length cap) out.length (ints out) := own_on hown (below_drewN (Below.refl _ _) nq)
          have cq0 : (wr.drewN nq).cell? ⟨b, o + k, none⟩ = some (.int .i64 a) := cell_on (below_drewN (Below.refl _ _) nq) c0
          have cq1 : (wr.drewN nq).cell? ⟨b, o + (k + 1), none⟩ = some (.int .i64 s) := cell_on (below_drewN (Below.refl _ _) nq) c1
          generalize wr.drewN nq = wq at hbq hoq cq0 cq1
          clear c0 c1 hbr hown hab
          have s6 : IntKind.i64.wrap (1000 - (out.length : Int)) = 1000 - (out.length : Int) := IntWalk.i64_in _ (by omega)
          have g0 : l.getD (2 * j) 0 = a := by rw [← hkj.out, List.getD_eq_getElem?_getD, List.getElem?_eq_getElem hlt]; exact ha.out
          have g1 : l.getD (2 * j + 1) 0 = s := by rw [← hkj.out, List.getD_eq_getElem?_getD, List.getElem?_eq_getElem hlt1]; exact hs.out
          have hstep : decP q l (j + 1) = if pairOk l j out.length = true then runN q s a.toNat (now, out) else none := by
            rw [decP, hP.out, Option.bind_some, g0, g1]
          have hno : pairOk l j out.length = false → DecOut (dec q l) w1 wq (.tuple #[.slice none 0 0, .bool false]) := fun hp => by
            rw [dec_none (j := j) (by have := hkj.out; omega) h2 (by rw [hstep, hp]; simp)]
            exact ⟨_, _, _, rfl⟩
          have Hstep := Lib.hid hstep
          have G0 := Lib.hid g0
          have G1 := Lib.hid g1
          clear hstep g0 g1
          cases p1 : inR a 1 (1000 - (out.length : Int))
          · go_wp2_with (go_at_call 31; refine (within _ _ _ _ _ p1).mono ?_; rintro e w2 ⟨rfl, rfl⟩)
            go_ret2
            exact ⟨⟨_, rfl, hno (by rw [pairOk, G0.out, p1]; rfl)⟩, hbq⟩
          have hside : (decide ((0 : Int) < (k : Int)) = false ∧ ¬ 0 < k) ∧ Hid (j = 0) ∨ (decide ((0 : Int) < (k : Int)) = true ∧ 0 < k ∧ IntKind.i64.wrap ((k : Int) - 1) = (k : Int) - 1 ∧ ((k : Int) - 1).toNat = k - 1 ∧ (0 : Int) ≤ (k : Int) - 1 ∧ (k : Int) - 1 < (l.length : Int)) ∧ Hid (0 < j) ∧ ∃ y, wq.cell? ⟨b, o + (k - 1), none⟩ = some (.int .i64 y) ∧ Hid (l.getD (2 * j - 1) 0 = y) := by
            have hkj' := hkj.out
            by_cases h0 : j = 0
            · exact .inl ⟨⟨decide_eq_false (by omega), by omega⟩, Lib.hid h0⟩
            · refine .inr ⟨⟨decide_eq_true (by omega), by omega, IntWalk.i64_in _ (by omega), by omega, by omega, by omega⟩, Lib.hid (by omega), ?_⟩
              have hlt2 : k - 1 < l.length := by omega
              obtain ⟨b', o', heq, _, cm⟩ := (hr.on hbq) (k - 1) hlt2
              simp only [Option.some.injEq, Addr.mk.injEq, and_true] at heq
              obtain ⟨rfl, rfl⟩ := heq
              refine ⟨_, cm, Lib.hid ?_⟩
              rw [show 2 * j - 1 = k - 1 by omega, List.getD_eq_getElem?_getD, List.getElem?_eq_getElem hlt2]; rfl
          cases p2 : inR s (-10000000) 10000000
          · rcases hside with ⟨⟨z0, z1⟩, hj0⟩ | ⟨⟨z0, z1, z2, z3, z4, z5⟩, hj0, y, cm, hy⟩
            · go_wp2_with (first
                | (go_at_call_of 31 a; refine (within _ _ _ _ _ p1).mono ?_; rintro e w2 ⟨rfl, rfl⟩)
                | (go_at_call_of 31 s; refine (within _ _ _ _ _ p2).mono ?_; rintro e w2 ⟨rfl, rfl⟩))
              go_ret2
              exact ⟨⟨_, rfl, hno (by rw [pairOk, G1.out, p2]; simp)⟩, hbq⟩
            · cases hsy : (s == y)
              · go_wp2_with (first
                  | (go_at_call_of 31 a; refine (within _ _ _ _ _ p1).mono ?_; rintro e w2 ⟨rfl, rfl⟩)
                  | (go_at_call_of 31 s; refine (within _ _ _ _ _ p2).mono ?_; rintro e w2 ⟨rfl, rfl⟩))
                go_ret2
                exact ⟨⟨_, rfl, hno (by rw [pairOk, G1.out, p2]; simp)⟩, hbq⟩
              · go_wp2_with (first
                  | (go_at_call_of 31 a; refine (within _ _ _ _ _ p1).mono ?_; rintro e w2 ⟨rfl, rfl⟩)
                  | (go_at_call_of 31 s; refine (within _ _ _ _ _ p2).mono ?_; rintro e w2 ⟨rfl, rfl⟩))
                go_ret2
                exact ⟨⟨_, rfl, hno (by rw [pairOk, G1.out, p2]; simp)⟩, hbq⟩
          · rcases hside with ⟨⟨z0, z1⟩, hj0⟩ | ⟨⟨z0, z1, z2, z3, z4, z5⟩, hj0, y, cm, hy⟩
            · have hok : pairOk l j out.length = true := by rw [pairOk, G0.out, G1.out, p1, p2, hj0.out]; simp
              have hr1 : Hid (decP q l (j + 1) = runN q s a.toNat (now, out)) := Lib.hid (by rw [Hstep.out, hok]; rfl)
              have hpa := inR_true.1 p1
              have hps := inR_true.1 p2
              obtain ⟨N, hN⟩ : ∃ N : Nat, Hid (a = (N : Int)) := ⟨a.toNat, Lib.hid (by omega)⟩
              have hNb : N ≤ 1000 - out.length ∧ 1 ≤ N := by have := hN.out; omega
              have hNa : a.toNat = N := by have := hN.out; omega
              rw [hNa] at hr1
              have p1' : inR (N : Int) 1 (1000 - (out.length : Int)) = true := by rw [← hN.out]; exact p1
              clear hno Hstep hNa
              rw [hN.out]
              clear p1 hpa
              go_wp2_with (first
                | (go_at_call_of 31 N; refine (within _ _ _ _ _ p1').mono ?_; rintro e w2 ⟨rfl, rfl⟩)
                | (go_at_call_of 31 s; refine (within _ _ _ _ _ p2).mono ?_; rintro e w2 ⟨rfl, rfl⟩))
              go_loopw [6, 7, 66] (fun o' x' t wr => ∃ (m : Nat) (nw : Int) (ot : List Int), m ≤ N ∧ t = .int .i64 m ∧ x' = .int .i64 nw ∧ (0 ≤ nw ∧ nw ≤ 10000000) ∧ Hid (ot.length = out.length + m) ∧ Hid (runN q s m (now, out) = some (nw, ot)) ∧ wr.ownsRow w1.heap.size 3 1 o' ot.length (ints ot) ∧ Below w1.heap.size w1 wr) (fun _ _ t _ => N - (intOf t).toNat)
              case atStart => exact ⟨0, now, out, Nat.zero_le _, rfl, rfl, hnow, Lib.hid rfl, Lib.hid rfl, hoq, hbq⟩
              case round =>
                obtain ⟨m, nw, ot, hm, rfl, rfl, hnw, hol, hrn, how, hbw⟩ := hrel
                by_cases hmN : m < N
                · have e1 : IntKind.i64.wrap (nw + s) = nw + s := IntWalk.i64_in _ (by omega)
                  have hrs : Hid (runN q s (m + 1) (now, out) = if inR (nw + s) 0 10000000 = true then some (nw + s, ot ++ [q * (nw + s)]) else none) := Lib.hid (by rw [runN, hrn.out]; rfl)
                  cases pm : inR (nw + s) 0 10000000
                  · go_wp2_with (go_at_call 82; refine (isMass _ _ _ pm).mono ?_; rintro e w3 ⟨rfl, rfl⟩)
                    go_ret2
                    refine ⟨⟨_, rfl, ?_⟩, hbw⟩
                    have h1 := hrs.out
                    rw [pm] at h1
                    have h2' := runN_stop (k := m + 1) (n := N) (by omega) (by simpa using h1)
                    rw [dec_none (j := j) (by have := hkj.out; omega) h2 (by rw [hr1.out, h2'])]
                    exact ⟨_, _, _, rfl⟩
                  · have hpm := inR_true.1 pm
                    have hm1 : 0 ≤ q * (nw + s) := Int.mul_nonneg (by omega) hpm.1
                    have hm2 : q * (nw + s) ≤ 1000000 * 10000000 := Int.le_trans (Int.mul_le_mul_of_nonneg_right hqb.2 hpm.1) (Int.mul_le_mul_of_nonneg_left hpm.2 (by omega))
                    have e2 : IntKind.i64.wrap (q * (nw + s)) = q * (nw + s) := IntWalk.i64_in _ (by omega)
                    have hL := Lib.hid (show ot.length + 1 ≤ 1000 by have := hol.out; omega)
                    have hsz := Lib.hid hbw.size
                    clear hm1 hm2
                    go_wp2_with (first
                      | (go_at_call 82; refine (isMass _ _ _ pm).mono ?_; rintro e w3 ⟨rfl, hw3⟩; obtain rfl := hw3.symm)
                      | (at_builtin; (refine wpList_append_own _ rfl _ _ 26 rfl w1.heap.size 3 i0 (.int .i64 0) 1 8 Try.underlying26 hi hz0 hz1 hz2 rfl (by decide) _ _ _ rfl (how.alloc _) ⟨wr.heap.size, 0, none⟩ 1 1 [.int .i64 (q * (nw + s))] rfl rfl (one_new _ _ _) (fun x hx => by simp at hx; subst hx; rfl) ?c3 ?c4 ?c5 ?_)))
                    case c3 => have := hL.out; unfold maxLen; omega
                    case c4 => have := hL.out; omega
                    case c5 => have := hsz.out; simp; omega
                    intro v' w4 hown' hgrow _
                    have hL4 : Hid ((ot ++ [q * (nw + s)]).length = out.length + (m + 1)) := Lib.hid (by have := hol.out; simp; omega)
                    have hR4 : Hid (runN q s (m + 1) (now, out) = some (nw + s, ot ++ [q * (nw + s)])) := Lib.hid (by rw [hrs.out, pm]; rfl)
                    have hO4 : w4.ownsRow w1.heap.size 3 1 v' (ot ++ [q * (nw + s)]).length (ints (ot ++ [q * (nw + s)])) := by
                      rw [ints_snoc, List.length_append]
                      exact hown'
                    have hw4 : Below w1.heap.size w1 w4 := (hbw.alloc hsz.out _).grown hgrow (by have := hsz.out; simp; omega) (fun k hk => (how.lt k hk).1)
                    clear hown' hgrow
                    go_wp2
                    go_roundw
                    case rel => exact ⟨m + 1, _, _, by omega, by go_num, rfl, hpm, hL4, hR4, hO4, hw4⟩
                    case measure => simp [intOf]; omega
                · have hmn : m = N := by omega
                  have hP4 : Hid (decP q l (j + 1) = some (nw, ot)) := Lib.hid (by rw [hr1.out, ← hmn]; exact hrn.out)
                  have hk2 : Hid (k + 2 = 2 * (j + 1)) := Lib.hid (by have := hkj.out; omega)
                  have hk3 : k + 2 ≤ l.length := by omega
                  have hl4 : ot.length ≤ 1000 := by have := hol.out; omega
                  have e5 : IntKind.i64.wrap ((k : Int) + 2) = (k : Int) + 2 := IntWalk.i64_in _ (by omega)
                  go_wp2
                  go_roundw
                  case rel => exact ⟨j + 1, k + 2, nw, ot, hk2, hk3, by go_num, rfl, hnw, hl4, hP4, how, hbw⟩
                  case measure => simp [intOf]; omega
            · cases hsy : (s == y)
              · have hok : pairOk l j out.length = true := by
                  have e1 : ¬ s = y := by simpa using hsy
                  rw [pairOk, G0.out, G1.out, p1, p2, hy.out]; simp [e1]
                have hr1 : Hid (decP q l (j + 1) = runN q s a.toNat (now, out)) := Lib.hid (by rw [Hstep.out, hok]; rfl)
                have hpa := inR_true.1 p1
                have hps := inR_true.1 p2
                obtain ⟨N, hN⟩ : ∃ N : Nat, Hid (a = (N : Int)) := ⟨a.toNat, Lib.hid (by omega)⟩
                have hNb : N ≤ 1000 - out.length ∧ 1 ≤ N := by have := hN.out; omega
                have hNa : a.toNat = N := by have := hN.out; omega
                rw [hNa] at hr1
                have p1' : inR (N : Int) 1 (1000 - (out.length : Int)) = true := by rw [← hN.out]; exact p1
                clear hno Hstep hNa
                rw [hN.out]
                clear p1 hpa
                go_wp2_with (first
                  | (go_at_call_of 31 N; refine (within _ _ _ _ _ p1').mono ?_; rintro e w2 ⟨rfl, rfl⟩)
                  | (go_at_call_of 31 s; refine (within _ _ _ _ _ p2).mono ?_; rintro e w2 ⟨rfl, rfl⟩))
                go_loopw [6, 7, 66] (fun o' x' t wr => ∃ (m : Nat) (nw : Int) (ot : List Int), m ≤ N ∧ t = .int .i64 m ∧ x' = .int .i64 nw ∧ (0 ≤ nw ∧ nw ≤ 10000000) ∧ Hid (ot.length = out.length + m) ∧ Hid (runN q s m (now, out) = some (nw, ot)) ∧ wr.ownsRow w1.heap.size 3 1 o' ot.length (ints ot) ∧ Below w1.heap.size w1 wr) (fun _ _ t _ => N - (intOf t).toNat)
                case atStart => exact ⟨0, now, out, Nat.zero_le _, rfl, rfl, hnow, Lib.hid rfl, Lib.hid rfl, hoq, hbq⟩
                case round =>
                  obtain ⟨m, nw, ot, hm, rfl, rfl, hnw, hol, hrn, how, hbw⟩ := hrel
                  by_cases hmN : m < N
                  · have e1 : IntKind.i64.wrap (nw + s) = nw + s := IntWalk.i64_in _ (by omega)
                    have hrs : Hid (runN q s (m + 1) (now, out) = if inR (nw + s) 0 10000000 = true then some (nw + s, ot ++ [q * (nw + s)]) else none) := Lib.hid (by rw [runN, hrn.out]; rfl)
                    cases pm : inR (nw + s) 0 10000000
                    · go_wp2_with (go_at_call 82; refine (isMass _ _ _ pm).mono ?_; rintro e w3 ⟨rfl, rfl⟩)
                      go_ret2
                      refine ⟨⟨_, rfl, ?_⟩, hbw⟩
                      have h1 := hrs.out
                      rw [pm] at h1
                      have h2' := runN_stop (k := m + 1) (n := N) (by omega) (by simpa using h1)
                      rw [dec_none (j := j) (by have := hkj.out; omega) h2 (by rw [hr1.out, h2'])]
                      exact ⟨_, _, _, rfl⟩
                    · have hpm := inR_true.1 pm
                      have hm1 : 0 ≤ q * (nw + s) := Int.mul_nonneg (by omega) hpm.1
                      have hm2 : q * (nw + s) ≤ 1000000 * 10000000 := Int.le_trans (Int.mul_le_mul_of_nonneg_right hqb.2 hpm.1) (Int.mul_le_mul_of_nonneg_left hpm.2 (by omega))
                      have e2 : IntKind.i64.wrap (q * (nw + s)) = q * (nw + s) := IntWalk.i64_in _ (by omega)
                      have hL := Lib.hid (show ot.length + 1 ≤ 1000 by have := hol.out; omega)
                      have hsz := Lib.hid hbw.size
                      clear hm1 hm2
                      go_wp2_with (first
                        | (go_at_call 82; refine (isMass _ _ _ pm).mono ?_; rintro e w3 ⟨rfl, hw3⟩; obtain rfl := hw3.symm)
                        | (at_builtin; (refine wpList_append_own _ rfl _ _ 26 rfl w1.heap.size 3 i0 (.int .i64 0) 1 8 Try.underlying26 hi hz0 hz1 hz2 rfl (by decide) _ _ _ rfl (how.alloc _) ⟨wr.heap.size, 0, none⟩ 1 1 [.int .i64 (q * (nw + s))] rfl rfl (one_new _ _ _) (fun x hx => by simp at hx; subst hx; rfl) ?c3 ?c4 ?c5 ?_)))
                      case c3 => have := hL.out; unfold maxLen; omega
                      case c4 => have := hL.out; omega
                      case c5 => have := hsz.out; simp; omega
                      intro v' w4 hown' hgrow _
                      have hL4 : Hid ((ot ++ [q * (nw + s)]).length = out.length + (m + 1)) := Lib.hid (by have := hol.out; simp; omega)
                      have hR4 : Hid (runN q s (m + 1) (now, out) = some (nw + s, ot ++ [q * (nw + s)])) := Lib.hid (by rw [hrs.out, pm]; rfl)
                      have hO4 : w4.ownsRow w1.heap.size 3 1 v' (ot ++ [q * (nw + s)]).length (ints (ot ++ [q * (nw + s)])) := by
                        rw [ints_snoc, List.length_append]
                        exact hown'
                      have hw4 : Below w1.heap.size w1 w4 := (hbw.alloc hsz.out _).grown hgrow (by have := hsz.out; simp; omega) (fun k hk => (how.lt k hk).1)
                      clear hown' hgrow
                      go_wp2
                      go_roundw
                      case rel => exact ⟨m + 1, _, _, by omega, by go_num, rfl, hpm, hL4, hR4, hO4, hw4⟩
                      case measure => simp [intOf]; omega
                  · have hmn : m = N := by omega
                    have hP4 : Hid (decP q l (j + 1) = some (nw, ot)) := Lib.hid (by rw [hr1.out, ← hmn]; exact hrn.out)
                    have hk2 : Hid (k + 2 = 2 * (j + 1)) := Lib.hid (by have := hkj.out; omega)
                    have hk3 : k + 2 ≤ l.length := by omega
                    have hl4 : ot.length ≤ 1000 := by have := hol.out; omega
                    have e5 : IntKind.i64.wrap ((k : Int) + 2) = (k : Int) + 2 := IntWalk.i64_in _ (by omega)
                    go_wp2
                    go_roundw
                    case rel => exact ⟨j + 1, k + 2, nw, ot, hk2, hk3, by go_num, rfl, hnw, hl4, hP4, how, hbw⟩
                    case measure => simp [intOf]; omega
              · have hbad : pairOk l j out.length = false := by
                  have e1 : s = y := by simpa using hsy
                  have e2 := hj0.out
                  rw [pairOk, G1.out, hy.out, e1]; simp [e2]
                go_wp2_with (first
                  | (go_at_call_of 31 a; refine (within _ _ _ _ _ p1).mono ?_; rintro e w2 ⟨rfl, rfl⟩)
                  | (go_at_call_of 31 s; refine (within _ _ _ _ _ p2).mono ?_; rintro e w2 ⟨rfl, rfl⟩))
                go_ret2
                exact ⟨⟨_, rfl, hno hbad⟩, hbq⟩
        · have hkl : k = l.length := by omega
          have hd : dec q l = some out := by
            unfold dec
            rw [if_pos ⟨hq, h2, h3⟩, show l.length / 2 = j by have := hkj.out; omega, hP.out]
            rfl
          have hH := Lib.hid hd
          clear hd
          go_wp2
          go_ret2
          refine ⟨⟨_, rfl, ?_⟩, hbr⟩
          rw [hH.out]
          exact ⟨_, rfl, hown⟩
    · go_enter Try.func63, Try.ntmps63
      have t2 : (l.length : Int).tmod 2 = 0 := by have := Int.ofNat_tmod l.length 2; rw [h2] at this; simpa using this.symm
      have t3 : decide ((2000 : Int) < (l.length : Int)) = true := decide_eq_true (by omega)
      go_wp2_with (go_at_call 81; refine (isQuantum _ _ _ hq).mono ?_; rintro e w1 ⟨rfl, rfl⟩)
      go_ret2
      exact ⟨⟨_, rfl, by simp [dec, h3, DecOut]⟩, Below.refl _ _⟩
  · go_enter Try.func63, Try.ntmps63
    have h2' : l.length % 2 = 1 := by omega
    have t2 : (l.length : Int).tmod 2 = 1 := by have := Int.ofNat_tmod l.length 2; rw [h2'] at this; simpa using this.symm
    go_wp2_with (go_at_call 81; refine (isQuantum _ _ _ hq).mono ?_; rintro e w1 ⟨rfl, rfl⟩)
    go_ret2
    exact ⟨⟨_, rfl, by simp [dec, h2, DecOut]⟩, Below.refl _ _⟩
end Go.Proofs.Ythdiilcpelioaaa

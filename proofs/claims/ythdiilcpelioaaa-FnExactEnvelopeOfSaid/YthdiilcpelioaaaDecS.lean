/- The reference's DecompressList. No condition but the argument's length. -/
import Derived.Test.YthdiilcpelioaaaDec
set_option linter.unusedVariables false
set_option linter.unusedSimpArgs false
namespace Go.Proofs.Ythdiilcpelioaaa
open Go.RowKit
set_option maxHeartbeats 4000000 in
set_option maxRecDepth 100000 in
theorem specDec (q : Int) (A : Option Addr) (l : List Int) (c : Nat) (w : World) (hr : RdI w A l) :
    Calls Try.prog 59 #[.slice A l.length c, .int .i64 q] w fun e w' => (∃ v, e = .returned v ∧ DecOut (dec q l) w w' v) ∧ Below w.heap.size w w' := by
  obtain ⟨i0, hi, hz0, hz1, hz2⟩ := info_parts intInfo
  have hB2 : Below w.heap.size w ((w.alloc (.cells #[] 3)).alloc (.cells #[] 3)) := (below_new w _).alloc (by simp) _
  cases hq : inR q 1 1000000
  · go_enter Try.func59, Try.ntmps59
    go_wp2_with (go_at_call 66; refine (l01In _ _ _ _ _ hq).mono ?_; rintro e w1 ⟨rfl, hw1⟩; obtain rfl := hw1.symm)
    go_ret2
    exact ⟨⟨_, rfl, by simp [dec, hq, DecOut]⟩, hB2⟩
  have hqb := inR_true.1 hq
  by_cases h2 : l.length % 2 = 0
  · by_cases h3 : l.length ≤ 2000
    · go_enter Try.func59, Try.ntmps59
      have t2 : (l.length : Int).tmod 2 = 0 := by have := Int.ofNat_tmod l.length 2; rw [h2] at this; simpa using this.symm
      have t3 : decide ((2000 : Int) < (l.length : Int)) = false := decide_eq_false (by omega)
      go_wp2_with (go_at_call 66; refine (l01In _ _ _ _ _ hq).mono ?_; rintro e w1 ⟨rfl, rfl⟩)
      have hown0 : ((w.alloc (.cells #[] 3)).alloc (.cells #[] 3)).ownsRow w.heap.size 3 1 (.slice (some ⟨w.heap.size + 1, 0, none⟩) 0 0) 0 [] := by
        have := World.ownsRow_made (base := w.heap.size) (e := 3) (size := 1) (w.alloc (.cells #[] 3)) #[] 0 (by simp) (by unfold maxLen; omega) (by simp)
        simpa using this
      go_loopw [7, 8, 9] (fun o x i wr => ∃ (j k : Nat) (now : Int) (out : List Int), Hid (k = 2 * j) ∧ k ≤ l.length ∧ i = .int .i64 k ∧ x = .int .i64 now ∧ (0 ≤ now ∧ now ≤ 10000000) ∧ out.length ≤ 1000 ∧ Hid (decP q l j = some (now, out)) ∧ wr.ownsRow w.heap.size 3 1 o out.length (ints out) ∧ Below w.heap.size w wr) (fun _ _ i _ => l.length - (intOf i).toNat)
      case atStart => exact ⟨0, 0, 0, [], Lib.hid rfl, Nat.zero_le _, rfl, rfl, by omega, by simp, Lib.hid rfl, hown0, hB2⟩
      case round =>
        obtain ⟨j, k, now, out, hkj, hk, rfl, rfl, hnow, hout, hP, hown, hbr⟩ := hrel
        by_cases hlt : k < l.length
        · have hlt1 : k + 1 < l.length := by have := hkj.out; omega
          obtain ⟨b, o, rfl, hab, c0⟩ := (hr.on hbr) k hlt
          obtain ⟨b', o', heq, _, c1⟩ := (hr.on hbr) (k + 1) hlt1
          simp only [Option.some.injEq, Addr.mk.injEq, and_true] at heq
          obtain ⟨rfl, rfl⟩ := heq
          have ⟨a, ha⟩ : ∃ a, Hid (l[k] = a) := ⟨_, Lib.hid rfl⟩
          have ⟨s, hs⟩ : ∃ s, Hid (l[k + 1] = s) := ⟨_, Lib.hid rfl⟩
          rw [ha.out] at c0
          rw [hs.out] at c1
          have s0 : IntKind.i64.wrap ((k : Int) + 1) = (k : Int) + 1 := IntWalk.i64_in _ (by omega)
          have s1 : ((k : Int) + 1).toNat = k + 1 := by omega
          have s2 : (0 : Int) ≤ (k : Int) + 1 := by omega
          have s3 : (k : Int) + 1 < (l.length : Int) := by omega
          have s4 : (0 : Int) ≤ (k : Int) := by omega
          have s5 : (k : Int) < (l.length : Int) := by omega
          obtain ⟨ao, cap, rfl⟩ := own_slice hown
          have s6 : IntKind.i64.wrap (1000 - (out.length : Int)) = 1000 - (out.length : Int) := IntWalk.i64_in _ (by omega)
          have g0 : l.getD (2 * j) 0 = a := by rw [← hkj.out, List.getD_eq_getElem?_getD, List.getElem?_eq_getElem hlt]; exact ha.out
          have g1 : l.getD (2 * j + 1) 0 = s := by rw [← hkj.out, List.getD_eq_getElem?_getD, List.getElem?_eq_getElem hlt1]; exact hs.out
          have hstep : decP q l (j + 1) = if pairOk l j out.length = true then runN q s a.toNat (now, out) else none := by
            rw [decP, hP.out, Option.bind_some, g0, g1]
          have hno : Hid (pairOk l j out.length = false → dec q l = none) := Lib.hid fun hp =>
            dec_none (j := j) (by have := hkj.out; omega) h2 (by rw [hstep, hp]; simp)
          have Hstep := Lib.hid hstep
          have G0 := Lib.hid g0
          have G1 := Lib.hid g1
          clear hstep g0 g1
          cases p1 : inR a 1 (1000 - (out.length : Int))
          · go_wp2_with fail
            go_quiet (first
              | (go_at_call_of 66 a; exact Calls.quiet_of_same (l01In _ _ _ _ _ p1)))
            go_wp2
            go_ret2
            refine ⟨⟨_, rfl, ?_⟩, below_drewN hbr _⟩
            rw [hno.out (by rw [pairOk, G0.out, p1]; rfl)]
            exact ⟨_, _, _, rfl⟩
          have hside : (decide ((0 : Int) < (k : Int)) = false ∧ ¬ 0 < k) ∧ Hid (j = 0) ∨ (decide ((0 : Int) < (k : Int)) = true ∧ 0 < k ∧ IntKind.i64.wrap ((k : Int) - 1) = (k : Int) - 1 ∧ ((k : Int) - 1).toNat = k - 1 ∧ (0 : Int) ≤ (k : Int) - 1 ∧ (k : Int) - 1 < (l.length : Int)) ∧ Hid (0 < j) ∧ ∃ y, wr.cell? ⟨b, o + (k - 1), none⟩ = some (.int .i64 y) ∧ Hid (l.getD (2 * j - 1) 0 = y) := by
            have hkj' := hkj.out
            by_cases h0 : j = 0
            · exact .inl ⟨⟨decide_eq_false (by omega), by omega⟩, Lib.hid h0⟩
            · refine .inr ⟨⟨decide_eq_true (by omega), by omega, IntWalk.i64_in _ (by omega), by omega, by omega, by omega⟩, Lib.hid (by omega), ?_⟩
              have hlt2 : k - 1 < l.length := by omega
              obtain ⟨b', o', heq, _, cm⟩ := (hr.on hbr) (k - 1) hlt2
              simp only [Option.some.injEq, Addr.mk.injEq, and_true] at heq
              obtain ⟨rfl, rfl⟩ := heq
              refine ⟨_, cm, Lib.hid ?_⟩
              rw [show 2 * j - 1 = k - 1 by omega, List.getD_eq_getElem?_getD, List.getElem?_eq_getElem hlt2]; rfl
          have hpa := inR_true.1 p1
          obtain ⟨N, hN⟩ : ∃ N : Nat, Hid (a = (N : Int)) := ⟨a.toNat, Lib.hid (by omega)⟩
          have hNb : N ≤ 1000 - out.length ∧ 1 ≤ N := by have := hN.out; omega
          rcases hside with ⟨⟨z0, z1⟩, hj0⟩ | ⟨⟨z0, z1, z2, z3, z4, z5⟩, hj0, y, cm, hy⟩
          · have hok : inR s (-10000000) 10000000 = true → pairOk l j out.length = true := by intro p2; rw [pairOk, G0.out, G1.out, p1, p2, hj0.out]; simp
            have hbad : inR s (-10000000) 10000000 = false → pairOk l j out.length = false := by intro p2; rw [pairOk, G1.out, p2]; simp
            go_wp2_with fail
            go_quiet (first
              | (go_at_call_of 66 a; exact Calls.quiet_of_same (l01In _ _ _ _ _ p1)))
            have hbq : Below w.heap.size w (wr.drewN nq) := below_drewN hbr nq
            have hoq : (wr.drewN nq).ownsRow w.heap.size 3 1 (.slice ao out.length cap) out.length (ints out) := own_on hown (below_drewN (Below.refl _ _) nq)
            have cq0 : (wr.drewN nq).cell? ⟨b, o + k, none⟩ = some (.int .i64 N) := by rw [← hN.out]; exact cell_on (below_drewN (Below.refl _ _) nq) c0
            have cq1 : (wr.drewN nq).cell? ⟨b, o + (k + 1), none⟩ = some (.int .i64 s) := cell_on (below_drewN (Below.refl _ _) nq) c1
            generalize wr.drewN nq = wq at hbq hoq cq0 cq1
            clear c0 c1 hbr hown hab
            go_wp2_with fail
            have hr1 : Hid (inR s (-10000000) 10000000 = true → decP q l (j + 1) = runN q s N (now, out)) := Lib.hid (fun p2 => by rw [Hstep.out, hok p2, hN.out]; rfl)
            cases p2 : inR s (-10000000) 10000000
            · go_loopw [7, 8, 10] (fun o' x' t wr2 => t = .int .i64 0 ∧ Below wq.heap.size wq wr2) (fun _ _ _ _ => 0)
              case atStart => exact ⟨rfl, Below.refl _ _⟩
              case round =>
                obtain ⟨rfl, hbw⟩ := hrel
                have d0 := cell_on hbw cq0
                have d1 := cell_on hbw cq1
                have hNp : decide ((0 : Int) < (N : Int)) = true := decide_eq_true (by omega)
                have hNq : 0 < N := by omega
                go_wp2_with (go_at_call 66; refine (l01In _ _ _ _ _ p2).mono ?_; rintro e w3 ⟨rfl, hw3⟩; obtain rfl := hw3.symm)
                go_ret2
                refine ⟨⟨_, rfl, ?_⟩, hbq.trans (hbw.mono hbq.size)⟩
                rw [hno.out (hbad p2)]
                exact ⟨_, _, _, rfl⟩
            have hps := inR_true.1 p2
            go_loopw [7, 8, 10] (fun o' x' t wr2 => ∃ (m : Nat) (nw : Int) (ot : List Int), m ≤ N ∧ t = .int .i64 m ∧ x' = .int .i64 nw ∧ (0 ≤ nw ∧ nw ≤ 10000000) ∧ Hid (ot.length = out.length + m) ∧ Hid (runN q s m (now, out) = some (nw, ot)) ∧ wr2.ownsRow w.heap.size 3 1 o' ot.length (ints ot) ∧ Below w.heap.size w wr2) (fun _ _ t _ => N - (intOf t).toNat)
            case atStart => exact ⟨0, now, out, Nat.zero_le _, rfl, rfl, hnow, Lib.hid rfl, Lib.hid rfl, hoq, hbq⟩
            case round =>
              obtain ⟨m, nw, ot, hm, rfl, rfl, hnw, hol, hrn, how, hbz⟩ := hrel
              obtain ⟨b', o', heq, _, d0⟩ := (hr.on hbz) k hlt
              obtain ⟨b'', o'', heq2, _, d1⟩ := (hr.on hbz) (k + 1) hlt1
              simp only [Option.some.injEq, Addr.mk.injEq, and_true] at heq heq2
              obtain ⟨rfl, rfl⟩ := heq
              obtain ⟨rfl, rfl⟩ := heq2
              rw [ha.out, hN.out] at d0
              rw [hs.out] at d1
              by_cases hmN : m < N
              · have e1 : IntKind.i64.wrap (nw + s) = nw + s := IntWalk.i64_in _ (by omega)
                have hrs : Hid (runN q s (m + 1) (now, out) = if inR (nw + s) 0 10000000 = true then some (nw + s, ot ++ [q * (nw + s)]) else none) := Lib.hid (by rw [runN, hrn.out]; rfl)
                cases pm : inR (nw + s) 0 10000000
                · go_wp2_with (first
                    | (go_at_call_of 66 (nw + s); refine (l01In _ _ _ _ _ pm).mono ?_; rintro e w3 ⟨rfl, hw3⟩; obtain rfl := hw3.symm)
                    | (go_at_call_of 66 s; refine (l01In _ _ _ _ _ p2).mono ?_; rintro e w3 ⟨rfl, hw3⟩; obtain rfl := hw3.symm))
                  go_ret2
                  refine ⟨⟨_, rfl, ?_⟩, hbz⟩
                  have h1 := hrs.out
                  rw [pm] at h1
                  have h2' := runN_stop (k := m + 1) (n := N) (by omega) (by simpa using h1)
                  rw [dec_none (j := j) (by have := hkj.out; omega) h2 (by rw [hr1.out p2, h2'])]
                  exact ⟨_, _, _, rfl⟩
                · have hpm := inR_true.1 pm
                  have hm1 : 0 ≤ q * (nw + s) := Int.mul_nonneg (by omega) hpm.1
                  have hm2 : q * (nw + s) ≤ 1000000 * 10000000 := Int.le_trans (Int.mul_le_mul_of_nonneg_right hqb.2 hpm.1) (Int.mul_le_mul_of_nonneg_left hpm.2 (by omega))
                  have e2 : IntKind.i64.wrap ((nw + s) * q) = (nw + s) * q := IntWalk.i64_in _ (by rw [Int.mul_comm]; omega) 
                  have hL := Lib.hid (show ot.length + 1 ≤ 1000 by have := hol.out; omega)
                  have hsz := Lib.hid hbz.size
                  clear hm1 hm2
                  go_wp2_with (first
                    | (go_at_call_of 66 (nw + s); refine (l01In _ _ _ _ _ pm).mono ?_; rintro e w3 ⟨rfl, hw3⟩; obtain rfl := hw3.symm)
                    | (go_at_call_of 66 s; refine (l01In _ _ _ _ _ p2).mono ?_; rintro e w3 ⟨rfl, hw3⟩; obtain rfl := hw3.symm)
                    | (at_builtin; refine wpList_append_own _ rfl _ _ 26 rfl w.heap.size 3 i0 (.int .i64 0) 1 8 Try.underlying26 hi hz0 hz1 hz2 rfl (by decide) _ _ _ rfl (how.alloc _) ⟨wr.heap.size, 0, none⟩ 1 1 [.int .i64 ((nw + s) * q)] rfl rfl (one_new _ _ _) (fun x hx => by simp at hx; subst hx; rfl) ?c3 ?c4 ?c5 ?_))
                  case c3 => have := hL.out; unfold maxLen; omega
                  case c4 => have := hL.out; omega
                  case c5 => have := hsz.out; simp; omega
                  intro v' w4 hown' hgrow _
                  rw [Int.mul_comm] at hown'
                  have hL4 : Hid ((ot ++ [q * (nw + s)]).length = out.length + (m + 1)) := Lib.hid (by have := hol.out; simp; omega)
                  have hR4 : Hid (runN q s (m + 1) (now, out) = some (nw + s, ot ++ [q * (nw + s)])) := Lib.hid (by rw [hrs.out, pm]; rfl)
                  have hO4 : w4.ownsRow w.heap.size 3 1 v' (ot ++ [q * (nw + s)]).length (ints (ot ++ [q * (nw + s)])) := by
                    rw [ints_snoc, List.length_append]
                    exact hown'
                  have hw4 : Below w.heap.size w w4 := (hbz.alloc hsz.out _).grown hgrow (by have := hsz.out; simp; omega) (fun k hk => (how.lt k hk).1)
                  clear hown' hgrow
                  go_wp2
                  go_roundw
                  case rel => exact ⟨m + 1, _, _, by omega, by go_num, rfl, hpm, hL4, hR4, hO4, hw4⟩
                  case measure => simp [intOf]; omega
              · have hmn : m = N := by omega
                have hP4 : Hid (decP q l (j + 1) = some (nw, ot)) := Lib.hid (by rw [hr1.out p2, ← hmn]; exact hrn.out)
                have hk2 : Hid (k + 2 = 2 * (j + 1)) := Lib.hid (by have := hkj.out; omega)
                have hk3 : k + 2 ≤ l.length := by omega
                have hl4 : ot.length ≤ 1000 := by have := hol.out; omega
                have e5 : IntKind.i64.wrap ((k : Int) + 2) = (k : Int) + 2 := IntWalk.i64_in _ (by omega)
                go_wp2
                go_roundw
                case rel => exact ⟨j + 1, k + 2, nw, ot, hk2, hk3, by go_num, rfl, hnw, hl4, hP4, how, hbz⟩
                case measure => simp [intOf]; omega
          · cases hsy : (s == y)
            · have hok : inR s (-10000000) 10000000 = true → pairOk l j out.length = true := by
                intro p2
                have e1 : ¬ s = y := by simpa using hsy
                rw [pairOk, G0.out, G1.out, p1, p2, hy.out]; simp [e1]
              have hbad : inR s (-10000000) 10000000 = false → pairOk l j out.length = false := by intro p2; rw [pairOk, G1.out, p2]; simp
              go_wp2_with fail
              go_quiet (first
                | (go_at_call_of 66 a; exact Calls.quiet_of_same (l01In _ _ _ _ _ p1)))
              have hbq : Below w.heap.size w (wr.drewN nq) := below_drewN hbr nq
              have hoq : (wr.drewN nq).ownsRow w.heap.size 3 1 (.slice ao out.length cap) out.length (ints out) := own_on hown (below_drewN (Below.refl _ _) nq)
              have cq0 : (wr.drewN nq).cell? ⟨b, o + k, none⟩ = some (.int .i64 N) := by rw [← hN.out]; exact cell_on (below_drewN (Below.refl _ _) nq) c0
              have cq1 : (wr.drewN nq).cell? ⟨b, o + (k + 1), none⟩ = some (.int .i64 s) := cell_on (below_drewN (Below.refl _ _) nq) c1
              generalize wr.drewN nq = wq at hbq hoq cq0 cq1
              clear c0 c1 hbr hown hab
              go_wp2_with fail
              have hr1 : Hid (inR s (-10000000) 10000000 = true → decP q l (j + 1) = runN q s N (now, out)) := Lib.hid (fun p2 => by rw [Hstep.out, hok p2, hN.out]; rfl)
              cases p2 : inR s (-10000000) 10000000
              · go_loopw [7, 8, 10] (fun o' x' t wr2 => t = .int .i64 0 ∧ Below wq.heap.size wq wr2) (fun _ _ _ _ => 0)
                case atStart => exact ⟨rfl, Below.refl _ _⟩
                case round =>
                  obtain ⟨rfl, hbw⟩ := hrel
                  have d0 := cell_on hbw cq0
                  have d1 := cell_on hbw cq1
                  have hNp : decide ((0 : Int) < (N : Int)) = true := decide_eq_true (by omega)
                  have hNq : 0 < N := by omega
                  go_wp2_with (go_at_call 66; refine (l01In _ _ _ _ _ p2).mono ?_; rintro e w3 ⟨rfl, hw3⟩; obtain rfl := hw3.symm)
                  go_ret2
                  refine ⟨⟨_, rfl, ?_⟩, hbq.trans (hbw.mono hbq.size)⟩
                  rw [hno.out (hbad p2)]
                  exact ⟨_, _, _, rfl⟩
              have hps := inR_true.1 p2
              go_loopw [7, 8, 10] (fun o' x' t wr2 => ∃ (m : Nat) (nw : Int) (ot : List Int), m ≤ N ∧ t = .int .i64 m ∧ x' = .int .i64 nw ∧ (0 ≤ nw ∧ nw ≤ 10000000) ∧ Hid (ot.length = out.length + m) ∧ Hid (runN q s m (now, out) = some (nw, ot)) ∧ wr2.ownsRow w.heap.size 3 1 o' ot.length (ints ot) ∧ Below w.heap.size w wr2) (fun _ _ t _ => N - (intOf t).toNat)
              case atStart => exact ⟨0, now, out, Nat.zero_le _, rfl, rfl, hnow, Lib.hid rfl, Lib.hid rfl, hoq, hbq⟩
              case round =>
                obtain ⟨m, nw, ot, hm, rfl, rfl, hnw, hol, hrn, how, hbz⟩ := hrel
                obtain ⟨b', o', heq, _, d0⟩ := (hr.on hbz) k hlt
                obtain ⟨b'', o'', heq2, _, d1⟩ := (hr.on hbz) (k + 1) hlt1
                simp only [Option.some.injEq, Addr.mk.injEq, and_true] at heq heq2
                obtain ⟨rfl, rfl⟩ := heq
                obtain ⟨rfl, rfl⟩ := heq2
                rw [ha.out, hN.out] at d0
                rw [hs.out] at d1
                by_cases hmN : m < N
                · have e1 : IntKind.i64.wrap (nw + s) = nw + s := IntWalk.i64_in _ (by omega)
                  have hrs : Hid (runN q s (m + 1) (now, out) = if inR (nw + s) 0 10000000 = true then some (nw + s, ot ++ [q * (nw + s)]) else none) := Lib.hid (by rw [runN, hrn.out]; rfl)
                  cases pm : inR (nw + s) 0 10000000
                  · go_wp2_with (first
                      | (go_at_call_of 66 (nw + s); refine (l01In _ _ _ _ _ pm).mono ?_; rintro e w3 ⟨rfl, hw3⟩; obtain rfl := hw3.symm)
                      | (go_at_call_of 66 s; refine (l01In _ _ _ _ _ p2).mono ?_; rintro e w3 ⟨rfl, hw3⟩; obtain rfl := hw3.symm))
                    go_ret2
                    refine ⟨⟨_, rfl, ?_⟩, hbz⟩
                    have h1 := hrs.out
                    rw [pm] at h1
                    have h2' := runN_stop (k := m + 1) (n := N) (by omega) (by simpa using h1)
                    rw [dec_none (j := j) (by have := hkj.out; omega) h2 (by rw [hr1.out p2, h2'])]
                    exact ⟨_, _, _, rfl⟩
                  · have hpm := inR_true.1 pm
                    have hm1 : 0 ≤ q * (nw + s) := Int.mul_nonneg (by omega) hpm.1
                    have hm2 : q * (nw + s) ≤ 1000000 * 10000000 := Int.le_trans (Int.mul_le_mul_of_nonneg_right hqb.2 hpm.1) (Int.mul_le_mul_of_nonneg_left hpm.2 (by omega))
                    have e2 : IntKind.i64.wrap ((nw + s) * q) = (nw + s) * q := IntWalk.i64_in _ (by rw [Int.mul_comm]; omega) 
                    have hL := Lib.hid (show ot.length + 1 ≤ 1000 by have := hol.out; omega)
                    have hsz := Lib.hid hbz.size
                    clear hm1 hm2
                    go_wp2_with (first
                      | (go_at_call_of 66 (nw + s); refine (l01In _ _ _ _ _ pm).mono ?_; rintro e w3 ⟨rfl, hw3⟩; obtain rfl := hw3.symm)
                      | (go_at_call_of 66 s; refine (l01In _ _ _ _ _ p2).mono ?_; rintro e w3 ⟨rfl, hw3⟩; obtain rfl := hw3.symm)
                      | (at_builtin; refine wpList_append_own _ rfl _ _ 26 rfl w.heap.size 3 i0 (.int .i64 0) 1 8 Try.underlying26 hi hz0 hz1 hz2 rfl (by decide) _ _ _ rfl (how.alloc _) ⟨wr.heap.size, 0, none⟩ 1 1 [.int .i64 ((nw + s) * q)] rfl rfl (one_new _ _ _) (fun x hx => by simp at hx; subst hx; rfl) ?c3 ?c4 ?c5 ?_))
                    case c3 => have := hL.out; unfold maxLen; omega
                    case c4 => have := hL.out; omega
                    case c5 => have := hsz.out; simp; omega
                    intro v' w4 hown' hgrow _
                    rw [Int.mul_comm] at hown'
                    have hL4 : Hid ((ot ++ [q * (nw + s)]).length = out.length + (m + 1)) := Lib.hid (by have := hol.out; simp; omega)
                    have hR4 : Hid (runN q s (m + 1) (now, out) = some (nw + s, ot ++ [q * (nw + s)])) := Lib.hid (by rw [hrs.out, pm]; rfl)
                    have hO4 : w4.ownsRow w.heap.size 3 1 v' (ot ++ [q * (nw + s)]).length (ints (ot ++ [q * (nw + s)])) := by
                      rw [ints_snoc, List.length_append]
                      exact hown'
                    have hw4 : Below w.heap.size w w4 := (hbz.alloc hsz.out _).grown hgrow (by have := hsz.out; simp; omega) (fun k hk => (how.lt k hk).1)
                    clear hown' hgrow
                    go_wp2
                    go_roundw
                    case rel => exact ⟨m + 1, _, _, by omega, by go_num, rfl, hpm, hL4, hR4, hO4, hw4⟩
                    case measure => simp [intOf]; omega
                · have hmn : m = N := by omega
                  have hP4 : Hid (decP q l (j + 1) = some (nw, ot)) := Lib.hid (by rw [hr1.out p2, ← hmn]; exact hrn.out)
                  have hk2 : Hid (k + 2 = 2 * (j + 1)) := Lib.hid (by have := hkj.out; omega)
                  have hk3 : k + 2 ≤ l.length := by omega
                  have hl4 : ot.length ≤ 1000 := by have := hol.out; omega
                  have e5 : IntKind.i64.wrap ((k : Int) + 2) = (k : Int) + 2 := IntWalk.i64_in _ (by omega)
                  go_wp2
                  go_roundw
                  case rel => exact ⟨j + 1, k + 2, nw, ot, hk2, hk3, by go_num, rfl, hnw, hl4, hP4, how, hbz⟩
                  case measure => simp [intOf]; omega
            · have hbad : pairOk l j out.length = false := by
                have e1 : s = y := by simpa using hsy
                have e2 := hj0.out
                rw [pairOk, G1.out, hy.out, e1]; simp [e2]
              go_wp2_with fail
              go_quiet (first
                | (go_at_call_of 66 a; exact Calls.quiet_of_same (l01In _ _ _ _ _ p1)))
              go_wp2
              go_ret2
              refine ⟨⟨_, rfl, ?_⟩, below_drewN hbr _⟩
              rw [hno.out hbad]
              exact ⟨_, _, _, rfl⟩
        · have hkl : k = l.length := by omega
          have hd : dec q l = some out := by
            unfold dec
            rw [if_pos ⟨hq, h2, h3⟩, show l.length / 2 = j by have := hkj.out; omega, hP.out]
            rfl
          have hH := Lib.hid hd
          clear hd
          go_wp2
          go_ret2
          refine ⟨⟨_, rfl, ?_⟩, hbr⟩
          rw [hH.out]
          exact ⟨_, rfl, hown⟩
    · go_enter Try.func59, Try.ntmps59
      have t2 : (l.length : Int).tmod 2 = 0 := by have := Int.ofNat_tmod l.length 2; rw [h2] at this; simpa using this.symm
      have t3 : decide ((2000 : Int) < (l.length : Int)) = true := decide_eq_true (by omega)
      go_wp2_with (go_at_call 66; refine (l01In _ _ _ _ _ hq).mono ?_; rintro e w1 ⟨rfl, hw1⟩; obtain rfl := hw1.symm)
      go_ret2
      exact ⟨⟨_, rfl, by simp [dec, h3, DecOut]⟩, hB2⟩
  · go_enter Try.func59, Try.ntmps59
    have h2' : l.length % 2 = 1 := by omega
    have t2 : (l.length : Int).tmod 2 = 1 := by have := Int.ofNat_tmod l.length 2; rw [h2'] at this; simpa using this.symm
    go_wp2_with (go_at_call 66; refine (l01In _ _ _ _ _ hq).mono ?_; rintro e w1 ⟨rfl, hw1⟩; obtain rfl := hw1.symm)
    go_ret2
    exact ⟨⟨_, rfl, by simp [dec, h2, DecOut]⟩, hB2⟩
end Go.Proofs.Ythdiilcpelioaaa

/- EnvelopeOf, by the reference. Condition: as many elements as memory takes. -/
import Derived.Test.YthdiilcpelioaaaEnvI
set_option linter.unusedVariables false
set_option linter.unusedSimpArgs false
namespace Go.Proofs.Ythdiilcpelioaaa
open Go.RowKit
theorem specEnvNo (A : Option Addr) (l : List StateR) (c : Nat) (w : World) (hr : RdSS w A l) (hf : fitsAll l) (hl : l.length ≤ 1000000000000) (h : askOk l = false) :
    Calls Try.prog 20 #[.slice A l.length c] w fun e w' => ∃ g1 g2 : Nat, e = .returned (.tuple #[.slice (some ⟨g1, 0, none⟩) 0 0, .slice (some ⟨g2, 0, none⟩) 0 0, .bool false]) ∧ Below w.heap.size w w' := by
  go_enter Try.func20, Try.ntmps20
  go_wp2_with (go_at_call 45; refine (specAsk A l c _ _ hr hf hl h).mono ?_; rintro e w1 ⟨rfl, hb1⟩)
  go_ret3
  exact ⟨_, _, rfl, (hb1.alloc hb1.size _).alloc (by have := hb1.size; simp; omega) _⟩
set_option maxRecDepth 100000 in
set_option maxHeartbeats 8000000 in
theorem specEnvYes (A : Option Addr) (l : List StateR) (c : Nat) (w : World) (hr : RdSS w A l) (hf : fitsAll l) (hm : massFits l) (hl : l.length ≤ 1000000000000) (h : askOk l = true) :
    Calls Try.prog 20 #[.slice A l.length c] w fun e w' => ∃ g1 c1 T1 g2 c2 T2, e = .returned (.tuple #[.slice (some ⟨g1, 0, none⟩) (envLow l).length c1, .slice (some ⟨g2, 0, none⟩) (envHigh l).length c2, .bool true]) ∧ w.heap.size ≤ g1 ∧ w.heap.size ≤ g2 ∧ g1 ≠ g2 ∧ Blk w' g1 3 (ints (envLow l) ++ T1) ∧ Blk w' g2 3 (ints (envHigh l) ++ T2) ∧ Below w.heap.size w w' := by
  have hlen : inR l.length 1 100 = true := by unfold askOk at h; simp only [Bool.and_eq_true] at h; exact h.1
  have hb := inR_true.1 hlen
  have h0 : 0 < l.length := by omega
  have hal : allAlike l h0 = true := by rw [← askOk_alike hlen h0]; exact h
  have hall : ∀ i (hi : i < l.length), alike l[i] (l[0]'h0) = true := fun i hi => List.all_eq_true.1 hal _ (List.getElem_mem hi)
  have hfine0 := alike_fine (hall 0 h0)
  have hlens : ∀ i (hi : i < l.length), l[i].mass.length = (l[0]'h0).mass.length := fun i hi => alike_len (hall i hi) hfine0
  have hp0 := fine_pos hfine0
  obtain ⟨i0, hi, hz0, hz1, hz2⟩ := info_parts intInfo
  obtain ⟨b, o, p, heq, hab, x0, x1, x2, x3, x4, x5⟩ := hr 0 h0
  simp only [Nat.zero_mul, Nat.add_zero] at x0 x1 x2 x3 x4
  subst heq
  obtain ⟨A1, c1, A2, c2, A3, c3, A4, c4⟩ := p
  obtain ⟨bm, om, rfl, _, _⟩ := x5.h2 0 hp0
  dsimp only at x0 x1 x2 x3 x4
  have hrm : RdI w (some ⟨bm, om, none⟩) (l[0]'h0).mass := x5.h2
  have hml := hm l[0] (List.getElem_mem h0)
  have hLens := Lib.hid hlens
  have hF := Lib.hid hf
  have hML := Lib.hid hml
  have s00 : (0 : Int) < (l.length : Int) := by omega
  clear hall hlens hf hm hal hlen hfine0 hml x0 x1 x3 x4 x5
  go_enter Try.func20, Try.ntmps20
  go_wp2_with (first
    | (go_at_call 45; refine (specAsk _ l c _ _ hr hF.out hl h).mono ?_; rintro e w1 ⟨rfl, hb1⟩; have y2 := cell_on hb1 x2; have y2' := cell_on (below_new w1 (.cells #[] 3)) y2; have hown := empty_own w1; have hrm1 := (hrm.on hb1).on (below_new w1 (.cells #[] 3)))
    | (at_builtin; go_loud (refine wpList_append_own _ rfl _ _ 26 rfl w1.heap.size 3 i0 (.int .i64 0) 1 8 Try.underlying26 hi hz0 hz1 hz2 rfl (by decide) _ _ _ rfl hown ⟨bm, om, none⟩ (l[0]'h0).mass.length c2 (ints (l[0]'h0).mass) rfl (by rw [ints_len, Nat.mul_one]) (src_cells hrm1) (ints_one _) ?c1 ?c2 ?c3 ?_)))
  case c1 => have := hML.out; unfold maxLen; omega
  case c2 => have := hML.out; omega
  case c3 => simp
  intro v1 w2 hown1 hgr hnil
  have hbl : Below w1.heap.size w1 w2 := (below_new w1 _).grown hgr (by simp) (fun k hk => by simp [Value.ownBlock] at hk; omega)
  obtain ⟨g1, k1, T1, rfl, hg1, hB1⟩ := ownI_of (l := (l[0]'h0).mass) (by simpa using hown1) hnil
  clear hown1 hgr hnil hown hrm1 y2'
  have z2 := cell_on hbl y2
  have hwl := hb1.trans (hbl.mono hb1.size)
  have hown := empty_own w2
  have z2' := cell_on (below_new w2 (.cells #[] 3)) z2
  have hrm2 := (hrm.on hwl).on (below_new w2 (.cells #[] 3))
  clear y2
  go_wp2_with (at_builtin; refine wpList_append_own _ rfl _ _ 26 rfl w2.heap.size 3 i0 (.int .i64 0) 1 8 Try.underlying26 hi hz0 hz1 hz2 rfl (by decide) _ _ _ rfl hown ⟨bm, om, none⟩ (l[0]'h0).mass.length c2 (ints (l[0]'h0).mass) rfl (by rw [ints_len, Nat.mul_one]) (src_cells hrm2) (ints_one _) ?d1 ?d2 ?d3 ?_)
  case d1 => have := hML.out; unfold maxLen; omega
  case d2 => have := hML.out; omega
  case d3 => simp
  intro v2 w3 hown2 hgr hnil
  have hbl2 : Below w2.heap.size w2 w3 := (below_new w2 _).grown hgr (by simp) (fun k hk => by simp [Value.ownBlock] at hk; omega)
  obtain ⟨g2, k2, T2, rfl, hg2, hB2⟩ := ownI_of (l := (l[0]'h0).mass) (by simpa using hown2) hnil
  clear hown2 hgr hnil hown hrm2 z2'
  have hlt1 := hB1.lt
  have hne : g1 ≠ g2 := by omega
  have hB1' := hB1.on hbl2
  have hwc := hwl.trans (hbl2.mono hwl.size)
  have hg1' : w.heap.size ≤ g1 := Nat.le_trans hb1.size hg1
  have hg2' : w.heap.size ≤ g2 := Nat.le_trans hwl.size hg2
  clear x2 z2 hb1 hbl hbl2 hwl hB1 hg1 hg2 hlt1
  go_wp2_with fail
  go_loopw [7] (fun i wr => ∃ k : Nat, 1 ≤ k ∧ k ≤ l.length ∧ i = .int .i64 k ∧ Blk wr g1 3 (ints (loK l k) ++ T1) ∧ Blk wr g2 3 (ints (hiK l k) ++ T2) ∧ Below w.heap.size w wr) (fun i _ => l.length - (intOf i).toNat)
  case atStart => exact ⟨1, Nat.le_refl _, h0, rfl, by rw [loK_succ h0, loK_zero h0, lowL_self]; exact hB1', by rw [hiK_succ h0, hiK_zero h0, highL_self]; exact hB2, hwc⟩
  case round =>
    obtain ⟨k, hk1, hk, rfl, hL, hH, hbr⟩ := hrel
    by_cases hlt : k < l.length
    · obtain ⟨b', o', p', heq, hab', y0, y1, y2, y3, y4, y5⟩ := hr k hlt
      simp only [Option.some.injEq, Addr.mk.injEq, and_true] at heq
      obtain ⟨rfl, rfl⟩ := heq
      have hlk := hLens.out k hlt
      have hpk : 0 < l[k].mass.length := by rw [hlk]; exact hp0
      obtain ⟨bm', om', heq', _, _⟩ := y5.h2 0 hpk
      have hx3 : RdI w (some ⟨bm', om', none⟩) l[k].mass := by rw [← heq']; exact y5.h2
      rw [heq'] at y2
      have hmlk : l[k].mass.length ≤ 1000000000000000 := (hF.out l[k] (List.getElem_mem hlt)).f2
      have hN3 := Lib.hid hlk
      clear hlk heq' y0 y1 y3 y4 y5
      go_wp2_with fail
      have hlo := loK_len hLens.out h0 k hk
      have hhi := hiK_len hLens.out h0 k hk
      have hloS := Lib.hid (loK_succ hlt)
      have hhiS := Lib.hid (hiK_succ hlt)
      generalize l[k].mass = m at hx3 hN3 hpk hmlk hloS hhiS y2
      generalize loK l k = lo at hL hlo hloS
      generalize hiK l k = hi at hH hhi hhiS
      have hN := Lib.hid hlo
      have hN2 := Lib.hid hhi
      have hlk := hN3.out
      have hll : (lowL lo m).length = lo.length := by simp [lowL]; omega
      have hhl : (highL hi m).length = hi.length := by simp [highL]; omega
      have hLL := Lib.hid hll
      have hHL := Lib.hid hhl
      clear hlo hhi hlk hll hhl hwc
      go_loopw [8] (fun i wr => ∃ j : Nat, j ≤ m.length ∧ i = .int .i64 j ∧ Blk wr g1 3 (ints (mix (lowL lo m) lo j) ++ T1) ∧ Blk wr g2 3 (ints (mix (highL hi m) hi j) ++ T2) ∧ Below w.heap.size w wr) (fun i _ => m.length - (intOf i).toNat)
      case atStart => exact ⟨0, Nat.zero_le _, rfl, by rw [mix_zero]; exact hL, by rw [mix_zero]; exact hH, hbr⟩
      case round =>
        obtain ⟨j, hj, rfl, hLj, hHj, hbj⟩ := hrel
        have hn0 : ((l[0]'h0).mass.length : Int) = (m.length : Int) := by rw [hN3.out]
        by_cases hjt : j < m.length
        · obtain ⟨b2, o2, heq2, hab2, z0⟩ := (hx3.on hbj) j hjt
          simp only [Option.some.injEq, Addr.mk.injEq, and_true] at heq2
          obtain ⟨rfl, rfl⟩ := heq2
          have q2 := cell_on hbj y2
          have hjl : j < lo.length := by rw [hN.out, ← hN3.out]; exact hjt
          have hjh : j < hi.length := by rw [hN2.out, ← hN3.out]; exact hjt
          have u1 := hLj.cell (ints_at (mix_at hLL.out hjl))
          have u2 := hHj.cell (ints_at (mix_at hHL.out hjh))
          have v1 := hLj.frozen j
          have v2 := hHj.frozen j
          have s1 : (0 : Int) ≤ (j : Int) := by omega
          have s2 : (j : Int) < (m.length : Int) := by omega
          have s3 : (j : Int) < ((l[0]'h0).mass.length : Int) := by omega
          have s4 : (0 : Int) ≤ (k : Int) := by omega
          have s5 : (k : Int) < (l.length : Int) := by omega
          have hLJ := Lib.hid hLj
          have hHJ := Lib.hid hHj
          clear hLj hHj
          have hq1 := Lib.hid (show (mix (lowL lo m) lo j).set j (mnI lo[j] m[j]) = mix (lowL lo m) lo (j + 1) by
            rw [← mix_set hLL.out hjl]; simp [lowL])
          have hq2 := Lib.hid (show (mix (highL hi m) hi j).set j (mxI hi[j] m[j]) = mix (highL hi m) hi (j + 1) by
            rw [← mix_set hHL.out hjh]; simp [highL])
          have hq3 := Lib.hid (show j < (mix (lowL lo m) lo j).length ∧ j < (mix (highL hi m) hi j).length from ⟨(List.getElem?_eq_some_iff.1 (mix_at hLL.out hjl)).1, (List.getElem?_eq_some_iff.1 (mix_at hHL.out hjh)).1⟩)
          generalize lo[j] = x at u1 hq1
          generalize hi[j] = y at u2 hq2
          generalize m[j] = z at z0 hq1 hq2
          have nb1 : ¬ b = g1 := by omega
          have nb2 : ¬ bm' = g1 := by omega
          have w1' := hbj.size
          clear hn0
          have Z := Lib.hid (show ∀ p q : Int, (p = mnI x z) → (q = mxI y z) → Blk ((wr.setCell ⟨g1, j, none⟩ (.int .i64 p)).setCell ⟨g2, j, none⟩ (.int .i64 q)).drew.drew g1 3 (ints (mix (lowL lo m) lo (j + 1)) ++ T1) ∧ Blk ((wr.setCell ⟨g1, j, none⟩ (.int .i64 p)).setCell ⟨g2, j, none⟩ (.int .i64 q)).drew.drew g2 3 (ints (mix (highL hi m) hi (j + 1)) ++ T2) from fun p q hp hq => by
            subst hp hq
            have S1 := (((hLJ.out.set j (.int .i64 (mnI x z))).other (Ne.symm hne) j (.int .i64 (mxI y z)))).drew.drew
            have S2 := (((hHJ.out.other hne j (.int .i64 (mnI x z))).set j (.int .i64 (mxI y z)))).drew.drew
            rw [ints_set _ _ _ _ hq3.out.1, hq1.out] at S1
            rw [ints_set _ _ _ _ hq3.out.2, hq2.out] at S2
            exact ⟨S1, S2⟩)
          by_cases c1' : z < x
          all_goals
            by_cases c2' : y < z
            all_goals
              go_wp2_with fail
              go_region
              go_wp2_with fail
              go_region
              go_wp2_with fail
              go_roundw
              case rel =>
                refine ⟨j + 1, by omega, by go_num, (Z.out _ _ ?_ ?_).1, (Z.out _ _ ?_ ?_).2, ((hbj.setCell (p := ⟨g1, j, none⟩) hg1' _).setCell (p := ⟨g2, j, none⟩) hg2' _).drew.drew⟩ <;> simp [mnI, mxI, c1', c2'] <;> (intro h; omega)
              case measure => simp [intOf]; omega
        · have hjl : j = m.length := by omega
          have hlm : lo.length = m.length := by rw [hN.out, hN3.out]
          have hhm : hi.length = m.length := by rw [hN2.out, hN3.out]
          rw [hjl, ← hlm, mix_all hLL.out, ← hloS.out] at hLj
          rw [hjl, ← hhm, mix_all hHL.out, ← hhiS.out] at hHj
          clear hlm hhm
          go_wp2_with fail
          go_roundw
          case rel => exact ⟨k + 1, by omega, by omega, by go_num, hLj, hHj, hbj⟩
          case measure => simp [intOf]; omega
    · have hkl : k = l.length := by omega
      rw [hkl] at hL hH
      rw [loK_all h0] at hL
      rw [hiK_all h0] at hH
      have e1 : (envLow l).length = (l[0]'h0).mass.length := by rw [← loK_all h0]; exact loK_len hLens.out h0 _ (Nat.le_refl _)
      have e2 : (envHigh l).length = (l[0]'h0).mass.length := by rw [← hiK_all h0]; exact hiK_len hLens.out h0 _ (Nat.le_refl _)
      have E1 := Lib.hid e1
      have E2 := Lib.hid e2
      clear e1 e2
      go_wp2
      go_ret3
      exact ⟨g1, k1, T1, g2, k2, T2, by rw [E1.out, E2.out]; rfl, hg1', hg2', hne, hL, hH, hbr⟩
end Go.Proofs.Ythdiilcpelioaaa

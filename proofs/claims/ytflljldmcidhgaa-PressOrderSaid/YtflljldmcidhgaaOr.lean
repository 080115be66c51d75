/- PressOrder: the walk. -/
import Derived.Test.YtflljldmcidhgaaLw
import Derived.Test.YtflljldmcidhgaaQuiet
namespace Go.Proofs.Ytflljldmcidhgaa
open Go.RowKit
set_option linter.unusedVariables false
set_option linter.unusedSimpArgs false
set_option linter.unnecessarySimpa false

theorem isvictim_calls (A : Option Addr) (n c : Nat) (hs : List Hd) (r : Int) (w : World) (hn : hs.length = n) (hb : n ≤ 9223372036854775807) (hL : Hs w A hs) (hbd : ∀ x ∈ hs, x.id ≤ 9223372036854775807) (hv : victimv hs = (r, 0)) :
    Calls Try.prog 25 #[.slice A n c, .int .i64 r] w fun e w' => e = .returned (.bool true) ∧ Kept w w' := by
  have hc := victim_calls A n c hs w hn hb hL hbd
  rw [hv] at hc
  have HC := Lib.hid hc
  clear hc hn hL hbd hv
  go_enter Try.func25, Try.ntmps25
  go_wp2_with fail
  refine HC.out.mono ?_
  rintro e w1 ⟨rfl, hk⟩
  have HK := Lib.hid hk
  clear hk
  go_wp2_with fail
  go_returns
  exact ⟨by simp, HK.out⟩

theorem memB_snoc (l : List Int) (y x : Int) : memB (l ++ [y]) x = (memB l x || decide (x = y)) := by
  unfold memB
  rw [← Bool.decide_or]
  simp [List.mem_append]

/-- Who comes ahead of whom. -/
theorem kh_lt {x y : Hd} (hx : Hok x) (hy : Hok y) (h : kh y < kh x) : x.fr < y.fr ∨ (y.fr = x.fr ∧ y.id < x.id) := by
  have := (less_iff hy hx).2 h
  unfold lessB at this
  by_cases h1 : x.fr < y.fr
  · exact .inl h1
  · rw [if_neg h1] at this
    by_cases h2 : y.fr = x.fr
    · rw [if_pos h2] at this
      exact .inr ⟨h2, by simpa using this⟩
    · rw [if_neg h2] at this; cases this

set_option maxRecDepth 100000 in
set_option maxHeartbeats 8000000 in
theorem order_calls (A : Option Addr) (n c : Nat) (hs : List Hd) (x1 x2 : Int) (w : World) (hn : hs.length = n) (hb : n ≤ 9223372036854775807) (hL : Hs w A hs) (hwd : ∀ x ∈ hs, Hd.wide x)
    (a1 : -9223372036854775808 ≤ x1) (a2 : x1 ≤ 9223372036854775807) (a3 : -9223372036854775808 ≤ x2) (a4 : x2 ≤ 9223372036854775807) :
    Calls Try.prog 6 #[.slice A n c, .int .i64 x1, .int .i64 x2] w fun e w' => e = .returned (.bool true) ∧ Kept w w' := by
  obtain ⟨F, hF, bF⟩ := pick_num x1 10001 (by omega)
  obtain ⟨G, hG, bG⟩ := pick_num x2 10001 (by omega)
  have hbd : ∀ x ∈ hs, x.id ≤ 9223372036854775807 := fun x hx => (hwd x hx).2.1
  have HF := Lib.hid hF
  have HG := Lib.hid hG
  have HL := Lib.hid hL
  have HN := Lib.hid hn
  have HBD := Lib.hid hbd
  clear hF hG hL hn hbd hwd
  go_enter Try.func6, Try.ntmps6
  go_wp2_with fail
  refine (awake_calls _).mono ?_
  rintro e w1 ⟨rfl, hk1⟩
  have HK1 := Lib.hid hk1
  clear hk1
  go_wp2_with fail
  refine (check_calls A n c hs w1 HN.out hb (HL.out.kept HK1.out)).mono ?_
  by_cases hg : Good hs
  · rw [chk_good hg]
    rintro e w2 ⟨rfl, hk2⟩
    have HK2 := Lib.hid (HK1.out.trans hk2)
    have h64 : n ≤ 64 := by rw [← HN.out]; exact hg.1
    have HGD := Lib.hid hg
    clear hk2 hg
    go_wp2_with fail
    refine (pick_nat x1 10001 F _ (by omega) (by omega) a1 a2 HF.out).mono ?_
    rintro e w' ⟨rfl, rfl⟩
    go_wp2_with fail
    refine (pick_nat x2 10001 G _ (by omega) (by omega) a3 a4 HG.out).mono ?_
    rintro e w' ⟨rfl, rfl⟩
    go_wp2_with fail
    have hpv : planv hs F G = ⟨plan (vics hs) F G, F + sumfr (plan (vics hs) F G), 0⟩ := by
      unfold planv
      rw [if_pos ⟨HGD.out, by omega, by omega, by omega, by omega⟩]
    have hpc := plan_calls A n c hs F G w2 HN.out hb (HL.out.kept HK2.out) HBD.out
    rw [hpv] at hpc
    simp only at hpc
    have hpre := plan_prefix (vics hs) F G
    have hok := good_ok HGD.out HBD.out
    have hsort := vics_sorted HGD.out HBD.out
    obtain ⟨P, hP⟩ : ∃ P, plan (vics hs) F G = P := ⟨_, rfl⟩
    rw [hP] at hpc hpre
    have hmem : ∀ y ∈ P, y ∈ hs ∧ 0 < y.fr := fun y hy => vics_mem.1 (hpre.subset hy)
    have hlen : P.length ≤ n := by
      have h1 := hpre.length_le
      have h2 := (vics_perm hs).length_eq
      have h3 := List.length_filter_le (fun x : Hd => decide (0 < x.fr)) hs
      unfold full at h2
      have := HN.out
      omega
    obtain ⟨R, hR⟩ := hpre
    -- two of them, one behind the other
    have hnext : ∀ (j : Nat) (y x : Hd), P[j]? = some y → P[j + 1]? = some x → x.fr < y.fr ∨ (y.fr = x.fr ∧ y.id < x.id) := fun j y x hy hx => by
      obtain ⟨a, rfl⟩ := List.getElem?_eq_some_iff.1 hy
      obtain ⟨b, rfl⟩ := List.getElem?_eq_some_iff.1 hx
      rw [← hR] at hsort
      have h1 := List.pairwise_iff_getElem.1 (List.pairwise_append.1 hsort).1 j (j + 1) a b (by omega)
      exact kh_lt (hok _ (hmem _ (List.getElem_mem b)).1) (hok _ (hmem _ (List.getElem_mem a)).1) h1
    -- who is first
    have hfirst : ∀ x : Hd, P[0]? = some x → victimv hs = (x.id, 0) := fun x hx => by
      have e : victimv hs = first1 (vics hs) := by unfold victimv; rw [if_pos HGD.out]
      rw [e, ← hR]
      cases hPP : P with
      | nil => rw [hPP] at hx; cases hx
      | cons y l => rw [hPP] at hx; simp at hx; subst hx; rfl
    -- who stays
    have hstay : ∀ (z x : Hd), P[P.length - 1]? = some z → x ∈ hs → x.id ∉ P.map Hd.id → x.fr < z.fr ∨ (x.fr = z.fr ∧ ¬ x.id < z.id) := fun z x hz hx hno => by
      have hzP : z ∈ P := List.mem_iff_getElem?.2 ⟨_, hz⟩
      have hzf := (hmem z hzP).2
      by_cases hf : 0 < x.fr
      · have hxv : x ∈ vics hs := vics_mem.2 ⟨hx, hf⟩
        rw [← hR] at hxv hsort
        rcases List.mem_append.1 hxv with h | h
        · exact absurd (List.mem_map.2 ⟨x, h, rfl⟩) hno
        · have h1 := (List.pairwise_append.1 hsort).2.2 z hzP x h
          rcases kh_lt (hok x hx) (hok z (hmem z hzP).1) h1 with h2 | ⟨h2, h3⟩
          · exact .inl h2
          · exact .inr ⟨h2.symm, by omega⟩
      · left; omega
    obtain ⟨M, hM⟩ : ∃ M, P.length = M := ⟨_, rfl⟩
    rw [hM] at hpc hlen hstay
    have HPC := Lib.hid hpc
    have HMEM := Lib.hid hmem
    have HNX := Lib.hid hnext
    have HFI := Lib.hid hfirst
    have HST := Lib.hid hstay
    have HM := Lib.hid hM
    have HOK := Lib.hid hok
    clear hpv hpc hR hok hsort hP hmem hnext hfirst hstay hM
    refine HPC.out.mono ?_
    rintro e w3 ⟨A3, c3, rfl, ho, hk3⟩
    have HI := Lib.hid (ints_of_own ho)
    have HK3 := Lib.hid (HK2.out.trans hk3)
    clear ho hk3
    have hgt : decide ((n : Int) < (M : Int)) = false := decide_eq_false (by omega)
    have hgtN : decide (n < M) = false := decide_eq_false (by omega)
    go_wp2_with fail
    go_loopw [11] (fun v wr => ∃ k : Nat, v = .int .i64 k ∧ k ≤ M ∧ Kept w3 wr) (fun v _ => M - (intOf v).toNat)
    case atStart => exact ⟨0, rfl, by omega, Only.refl _ _⟩
    case round =>
      obtain ⟨k, rfl, hk, hkp⟩ := hrel
      have HKP := Lib.hid hkp
      clear hkp
      by_cases hkM : k < M
      · obtain ⟨x, hx⟩ : ∃ x, P[k]? = some x := ⟨_, List.getElem?_eq_getElem (by rw [HM.out]; exact hkM)⟩
        obtain ⟨hxm, hxf⟩ := HMEM.out x (List.mem_iff_getElem?.2 ⟨k, hx⟩)
        obtain ⟨g, o, hA, _, hc⟩ := (HI.out.kept HKP.out) (by rintro e; have := congrArg List.length e; rw [List.length_map, HM.out] at this; simp at this; omega)
        subst hA
        have c1 := hc k (by rw [List.length_map, HM.out]; exact hkM)
        rw [show (P.map Hd.id).getD k 0 = x.id by simp [List.getD, hx]] at c1
        have HX := Lib.hid hx
        have HXM := Lib.hid hxm
        by_cases hk0 : k = 0
        · subst hk0
          have c1 : wr.cell? ⟨g, o, none⟩ = some (.int .i64 x.id) := c1
          clear hx hc hxm
          go_wp2_with fail
          refine (frames_calls A n c hs x wr HN.out (HL.out.kept (HK3.out.trans HKP.out)) HGD.out HXM.out).mono ?_
          rintro e w' ⟨rfl, rfl⟩
          go_wp2_with fail
          refine (isvictim_calls A n c hs x.id wr HN.out hb (HL.out.kept (HK3.out.trans HKP.out)) HBD.out (HFI.out x HX.out)).mono ?_
          rintro e w4 ⟨rfl, hk4⟩
          have HKP4 := Lib.hid (HKP.out.trans hk4)
          clear hk4 c1
          go_wp2_with fail
          go_quiet (fail)
          go_wp2_with fail
          go_roundw
          case rel => exact ⟨1, rfl, by omega, HKP4.out.drewN _⟩
          case measure => simp [intOf]; omega
        · obtain ⟨j, hj⟩ : ∃ j, k - 1 = j := ⟨_, rfl⟩
          obtain ⟨y, hy⟩ : ∃ y, P[j]? = some y := ⟨_, List.getElem?_eq_getElem (by rw [HM.out]; omega)⟩
          obtain ⟨hym, _⟩ := HMEM.out y (List.mem_iff_getElem?.2 ⟨j, hy⟩)
          have c2 := hc j (by rw [List.length_map, HM.out]; omega)
          rw [show (P.map Hd.id).getD j 0 = y.id by simp [List.getD, hy]] at c2
          have hnx := HNX.out j y x hy (by rw [show j + 1 = k by omega]; exact hx)
          have hkz : ((k : Int) == 0) = false := by rw [beq_eq_false_iff_ne]; omega
          have hkp0 : decide ((0 : Int) < (k : Int)) = true := decide_eq_true (by omega)
          have hwj : IntKind.i64.wrap ((k : Int) - 1) = (j : Int) := by rw [IntKind.wrap_i64]; omega
          have z1 : (0 : Int) ≤ (j : Int) := by omega
          have z2 : (j : Int) < (M : Int) := by omega
          have z3 : (0 : Int) ≤ (k : Int) := by omega
          have z4 : (k : Int) < (M : Int) := by omega
          have HYM := Lib.hid hym
          have HNJ := Lib.hid (show (k : Int) - 1 = (j : Int) by omega)
          clear hx hc hxm hy hym hj
          have hk1 : 1 ≤ k := by omega
          have hk2 : 0 < k := by omega
          have hk3 : decide (0 < k) = true := decide_eq_true hk2
          go_wp2_with fail
          refine (frames_calls A n c hs x wr HN.out (HL.out.kept (HK3.out.trans HKP.out)) HGD.out HXM.out).mono ?_
          rintro e w' ⟨rfl, rfl⟩
          rcases hnx with h1 | ⟨h1, h2⟩
          · have d1 : decide (y.fr < x.fr) = false := decide_eq_false (by omega)
            have d2 : (y.fr == x.fr) = false := by rw [beq_eq_false_iff_ne]; omega
            go_wp2_with fail
            go_quiet ((go_at_call 24; exact quiet_l (frames_calls A n c hs y _ HN.out (HL.out.kept ((HK3.out.trans HKP.out).drewN _)) HGD.out HYM.out)))
            go_wp2_with fail
            go_roundw
            case rel => exact ⟨k + 1, by go_num, by omega, HKP.out.drewN _⟩
            case measure => simp [intOf]; omega
          · have d1 : decide (y.fr < x.fr) = false := decide_eq_false (by omega)
            have d2 : (y.fr == x.fr) = true := by rw [beq_iff_eq]; exact h1
            have d3 : decide (x.id ≤ y.id) = false := decide_eq_false (by omega)
            clear h1 h2
            go_wp2_with fail
            go_quiet ((go_at_call 24; exact quiet_l (frames_calls A n c hs y _ HN.out (HL.out.kept ((HK3.out.trans HKP.out).drewN _)) HGD.out HYM.out)))
            go_wp2_with fail
            go_roundw
            case rel => exact ⟨k + 1, by go_num, by omega, HKP.out.drewN _⟩
            case measure => simp [intOf]; omega
      · obtain rfl : M = k := by omega
        by_cases hM0 : M = 0
        · subst hM0
          go_wp2_with fail
          go_returns
          exact ⟨rfl, HK3.out.trans HKP.out⟩
        · obtain ⟨J, hJ⟩ : ∃ J, M - 1 = J := ⟨_, rfl⟩
          rw [hJ] at HST
          obtain ⟨z, hz⟩ : ∃ z, P[J]? = some z := ⟨_, List.getElem?_eq_getElem (by rw [HM.out]; omega)⟩
          obtain ⟨hzm, _⟩ := HMEM.out z (List.mem_iff_getElem?.2 ⟨J, hz⟩)
          obtain ⟨g, o, hA, _, hc⟩ := (HI.out.kept HKP.out) (by rintro e; have := congrArg List.length e; rw [List.length_map, HM.out] at this; simp at this; omega)
          subst hA
          have cz := hc J (by rw [List.length_map, HM.out]; omega)
          rw [show (P.map Hd.id).getD J 0 = z.id by simp [List.getD, hz]] at cz
          have hMz : ((M : Int) == 0) = false := by rw [beq_eq_false_iff_ne]; omega
          have hwJ : IntKind.i64.wrap ((M : Int) - 1) = (J : Int) := by rw [IntKind.wrap_i64]; omega
          have hsJ : (M : Int) - 1 = (J : Int) := by omega
          have y1 : (0 : Int) ≤ (J : Int) := by omega
          have y2 : (J : Int) < (M : Int) := by omega
          have HZM := Lib.hid hzm
          have HZ := Lib.hid hz
          clear hc hz hzm hJ
          have hM1 : 1 ≤ M := by omega
          go_wp2_with fail
          refine (frames_calls A n c hs z wr HN.out (HL.out.kept (HK3.out.trans HKP.out)) HGD.out HZM.out).mono ?_
          rintro e w' ⟨rfl, rfl⟩
          go_wp2_with fail
          obtain ⟨wo, rfl⟩ : ∃ wo : World, wo = wr := ⟨_, rfl⟩
          go_loopw [14] (fun v wr => ∃ i : Nat, v = .int .i64 i ∧ i ≤ n ∧ Kept w3 wr) (fun v _ => n - (intOf v).toNat)
          case atStart => exact ⟨0, rfl, by omega, HKP.out⟩
          case round =>
            clear cz HKP
            obtain ⟨i, rfl, hi, hkp⟩ := hrel
            have HKP := Lib.hid hkp
            clear hkp
            by_cases hin : i < n
            · obtain ⟨x, hx⟩ : ∃ x, hs[i]? = some x := ⟨_, List.getElem?_eq_getElem (by rw [HN.out]; exact hin)⟩
              obtain ⟨g2, o2, hA2, _, hc2⟩ := (HL.out.kept (HK3.out.trans HKP.out)) (by rintro rfl; simp at hx)
              subst hA2
              obtain ⟨d1, d2⟩ := hc2 i x hx
              have hxm : x ∈ hs := List.mem_iff_getElem?.2 ⟨i, hx⟩
              have HXM := Lib.hid hxm
              have v1 : (0 : Int) ≤ (i : Int) := by omega
              have v2 : (i : Int) < (n : Int) := by omega
              clear hc2 hx hxm
              go_wp2_with fail
              obtain ⟨wi, rfl⟩ : ∃ wi : World, wi = wr := ⟨_, rfl⟩
              go_loopw [15, 16] (fun u v wr => ∃ k q : Nat, v = .int .i64 k ∧ k ≤ M ∧ u = .bool (memB ((P.take k).map Hd.id) x.id) ∧ wr = wi.drewN q) (fun _ v _ => M - (intOf v).toNat)
              case atStart => exact ⟨0, 0, rfl, by omega, by simp [memB], rfl⟩
              case round =>
                obtain ⟨k, q, rfl, hk, rfl, hw⟩ := hrel
                subst hw
                by_cases hkM : k < M
                · obtain ⟨y, hy⟩ : ∃ y, P[k]? = some y := ⟨_, List.getElem?_eq_getElem (by rw [HM.out]; exact hkM)⟩
                  obtain ⟨g3, o3, e3, _, hc3⟩ := (HI.out.kept HKP.out) (by rintro e; have := congrArg List.length e; rw [List.length_map, HM.out] at this; simp at this; omega)
                  cases e3
                  have c3 := hc3 k (by rw [List.length_map, HM.out]; exact hkM)
                  rw [show (P.map Hd.id).getD k 0 = y.id by simp [List.getD, hy]] at c3
                  have hts : (P.take (k + 1)).map Hd.id = (P.take k).map Hd.id ++ [y.id] := by
                    obtain ⟨hk', hye⟩ := List.getElem?_eq_some_iff.1 hy
                    rw [List.take_succ_eq_append_getElem hk', hye, List.map_append]
                    rfl
                  have HTS := Lib.hid hts
                  have v3 : (0 : Int) ≤ (k : Int) := by omega
                  have v4 : (k : Int) < (M : Int) := by omega
                  clear hc3 hy hts
                  cases hmb : memB ((P.take k).map Hd.id) x.id with
                  | true =>
                    have HMB := Lib.hid hmb
                    clear hmb
                    go_wp2_with fail
                    go_quiet (fail)
                    go_wp2_with fail
                    go_roundw
                    case rel =>
                      refine ⟨k + 1, _, by go_num, by omega, ?_, rfl⟩
                      rw [HTS.out, memB_snoc, HMB.out]
                      rfl
                    case measure => simp [intOf]; omega
                  | false =>
                    have HMB := Lib.hid hmb
                    clear hmb
                    by_cases he : y.id = x.id
                    · have hb2 : (y.id == x.id) = true := by rw [beq_iff_eq]; exact he
                      have HE := Lib.hid he
                      clear he
                      go_wp2_with fail
                      go_quiet (fail)
                      go_wp2_with fail
                      go_roundw
                      case rel =>
                        refine ⟨k + 1, _, by go_num, by omega, ?_, rfl⟩
                        rw [HTS.out, memB_snoc, HMB.out, HE.out]
                        simp
                      case measure => simp [intOf]; omega
                    · have hb2 : (y.id == x.id) = false := by rw [beq_eq_false_iff_ne]; exact he
                      have HE := Lib.hid he
                      clear he
                      go_wp2_with fail
                      go_quiet (fail)
                      go_wp2_with fail
                      go_roundw
                      case rel =>
                        refine ⟨k + 1, _, by go_num, by omega, ?_, rfl⟩
                        have h2 : ¬ x.id = y.id := fun e => HE.out e.symm
                        rw [HTS.out, memB_snoc, HMB.out]
                        simp [h2]
                      case measure => simp [intOf]; omega
                · obtain rfl : M = k := by omega
                  rw [List.take_of_length_le (by rw [HM.out]; exact Nat.le_refl _)]
                  cases hmb : memB (P.map Hd.id) x.id with
                  | true =>
                    clear hmb
                    go_wp2_with fail
                    go_quiet (fail)
                    go_wp2_with fail
                    go_roundw
                    case rel => exact ⟨i + 1, by go_num, by omega, HKP.out.drewN _⟩
                    case measure => simp [intOf]; omega
                  | false =>
                    have hno : x.id ∉ P.map Hd.id := by simpa [memB] using hmb
                    have hs2 := HST.out z x HZ.out HXM.out hno
                    obtain ⟨g3, o3, e3, _, hc3⟩ := (HI.out.kept HKP.out) (by rintro e; have := congrArg List.length e; rw [List.length_map, HM.out] at this; simp at this; omega)
                    cases e3
                    have c3 := hc3 J (by rw [List.length_map, HM.out]; omega)
                    rw [show (P.map Hd.id).getD J 0 = z.id by simp [List.getD, HZ.out]] at c3
                    clear hmb hno hc3
                    rcases hs2 with h1 | ⟨h1, h2⟩
                    · have e1 : decide (z.fr < x.fr) = false := decide_eq_false (by omega)
                      have e2 : (x.fr == z.fr) = false := by rw [beq_eq_false_iff_ne]; omega
                      clear h1
                      go_wp2_with fail
                      go_quiet (fail)
                      go_wp2_with fail
                      go_roundw
                      case rel => exact ⟨i + 1, by go_num, by omega, HKP.out.drewN _⟩
                      case measure => simp [intOf]; omega
                    · have e1 : decide (z.fr < x.fr) = false := decide_eq_false (by omega)
                      have e2 : (x.fr == z.fr) = true := by rw [beq_iff_eq]; exact h1
                      have e3 : decide (x.id < z.id) = false := decide_eq_false (by omega)
                      clear h1 h2
                      go_wp2_with fail
                      go_quiet (fail)
                      go_wp2_with fail
                      go_roundw
                      case rel => exact ⟨i + 1, by go_num, by omega, HKP.out.drewN _⟩
                      case measure => simp [intOf]; omega
            · go_wp2_with fail
              go_returns
              exact ⟨rfl, HK3.out.trans HKP.out⟩
  · rw [chk_bad hg]
    rintro e w2 ⟨rfl, hk2⟩
    have HK2 := Lib.hid (HK1.out.trans hk2)
    clear hk2 hg
    go_wp2_with fail
    go_returns
    exact ⟨rfl, HK2.out⟩
end Go.Proofs.Ytflljldmcidhgaa

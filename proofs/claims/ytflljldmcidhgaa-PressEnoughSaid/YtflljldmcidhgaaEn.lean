/- PressEnough: the walk. -/
import Derived.Test.YtflljldmcidhgaaLw
namespace Go.Proofs.Ytflljldmcidhgaa
open Go.RowKit
set_option linter.unusedVariables false
set_option linter.unusedSimpArgs false
set_option linter.unnecessarySimpa false

set_option maxRecDepth 100000 in
set_option maxHeartbeats 8000000 in
theorem enough_calls (A : Option Addr) (n c : Nat) (hs : List Hd) (x1 x2 : Int) (w : World) (hn : hs.length = n) (hb : n ≤ 9223372036854775807) (hL : Hs w A hs) (hwd : ∀ x ∈ hs, Hd.wide x)
    (a1 : -9223372036854775808 ≤ x1) (a2 : x1 ≤ 9223372036854775807) (a3 : -9223372036854775808 ≤ x2) (a4 : x2 ≤ 9223372036854775807) :
    Calls Try.prog 7 #[.slice A n c, .int .i64 x1, .int .i64 x2] w fun e w' => e = .returned (.bool true) ∧ Kept w w' := by
  obtain ⟨F, hF, bF⟩ := pick_num x1 10001 (by omega)
  obtain ⟨G, hG, bG⟩ := pick_num x2 10001 (by omega)
  have hbd : ∀ x ∈ hs, x.id ≤ 9223372036854775807 := fun x hx => (hwd x hx).2.1
  have HF := Lib.hid hF
  have HG := Lib.hid hG
  have HL := Lib.hid hL
  have HN := Lib.hid hn
  have HBD := Lib.hid hbd
  clear hF hG hL hn hbd hwd
  go_enter Try.func7, Try.ntmps7
  go_wp2_with fail
  refine (known_calls _).mono ?_
  rintro e w1 ⟨rfl, hk1⟩
  have HK1 := Lib.hid hk1
  clear hk1
  go_wp2_with fail
  refine (check_calls A n c hs w1 HN.out hb (HL.out.kept HK1.out)).mono ?_
  by_cases hg : Good hs
  · rw [chk_good hg]
    rintro e w2 ⟨rfl, hk2⟩
    have HK2 := Lib.hid (HK1.out.trans hk2)
    have h64 : n ≤ 64 := by rw [← HN.out]; exact hg.1
    have HGD := Lib.hid hg
    clear hk2 hg
    go_wp2_with fail
    refine (pick_nat x1 10001 F _ (by omega) (by omega) a1 a2 HF.out).mono ?_
    rintro e w' ⟨rfl, rfl⟩
    go_wp2_with fail
    refine (pick_nat x2 10001 G _ (by omega) (by omega) a3 a4 HG.out).mono ?_
    rintro e w' ⟨rfl, rfl⟩
    go_wp2_with fail
    have hpv : planv hs F G = ⟨plan (vics hs) F G, F + sumfr (plan (vics hs) F G), 0⟩ := by
      unfold planv
      rw [if_pos ⟨HGD.out, by omega, by omega, by omega, by omega⟩]
    have hpc := plan_calls A n c hs F G w2 HN.out hb (HL.out.kept HK2.out) HBD.out
    rw [hpv] at hpc
    simp only at hpc
    -- the plan, by its name
    have hpre := plan_prefix (vics hs) F G
    have hsh := plan_short (vics hs) F G
    have hen := plan_enough (vics hs) F G
    have hok := good_ok HGD.out HBD.out
    obtain ⟨P, hP⟩ : ∃ P, plan (vics hs) F G = P := ⟨_, rfl⟩
    rw [hP] at hpc hpre hsh hen
    have hmem : ∀ y ∈ P, y ∈ hs ∧ 0 < y.fr := fun y hy => vics_mem.1 (hpre.subset hy)
    have hlen : P.length ≤ n := by
      have h1 := hpre.length_le
      have h2 := (vics_perm hs).length_eq
      have h3 := List.length_filter_le (fun x : Hd => decide (0 < x.fr)) hs
      unfold full at h2
      have := HN.out
      omega
    have hsum : heldv hs = sumfr hs := by unfold heldv; rw [if_pos HGD.out]
    have htot : P = vics hs → sumfr P = sumfr hs := fun e => by
      rw [e, ← sumfr_perm (vics_perm hs), sumfr_full (fun x hx => (hok x hx).2.2.1)]
    have hbnd : ∀ j, 0 ≤ sumfr (P.take j) ∧ sumfr (P.take j) ≤ 4096 := fun j => by
      have h1 := sumfr_some (l := P.take j) (fun y hy => hok y (hmem y (List.mem_of_mem_take hy)).1)
      have h2 : (P.take j).length ≤ 64 := Nat.le_trans (List.length_take_le' j P) (by omega)
      omega
    have hbA : 0 ≤ sumfr hs ∧ sumfr hs ≤ 4096 := by
      have h1 := sumfr_some (l := hs) hok
      have := HN.out
      omega
    have hstep : ∀ (k : Nat) (x : Hd), P[k]? = some x → sumfr (P.take (k + 1)) = sumfr (P.take k) + x.fr := fun k x hx => by
      obtain ⟨hk, rfl⟩ := List.getElem?_eq_some_iff.1 hx
      rw [List.take_succ_eq_append_getElem hk, sumfr_snoc]
    obtain ⟨M, hM⟩ : ∃ M, P.length = M := ⟨_, rfl⟩
    have hall : sumfr (P.take M) = sumfr P := by rw [← hM, List.take_length]
    rw [hM] at hpc hlen
    have HPC := Lib.hid hpc
    have HSH := Lib.hid hsh
    have HEN := Lib.hid hen
    have HMEM := Lib.hid hmem
    have HSUM := Lib.hid hsum
    have HTOT := Lib.hid htot
    have HBND := Lib.hid hbnd
    have HSTEP := Lib.hid hstep
    have HM := Lib.hid hM
    have HALL := Lib.hid hall
    obtain ⟨hbA1, hbA2⟩ := hbA
    clear hpv hpc hpre hsh hen hok hP hmem hsum htot hbnd hstep hM hall
    refine HPC.out.mono ?_
    rintro e w3 ⟨A3, c3, rfl, ho, hk3⟩
    have HI := Lib.hid (ints_of_own ho)
    have HK3 := Lib.hid (HK2.out.trans hk3)
    clear ho hk3
    go_wp2_with fail
    go_loopw [11, 12] (fun u v wr => ∃ k : Nat, v = .int .i64 k ∧ k ≤ M ∧ u = .int .i64 (F + sumfr (P.take k)) ∧ w3 = wr) (fun _ v _ => M - (intOf v).toNat)
    case atStart => exact ⟨0, rfl, by omega, by simp [sumfr], rfl⟩
    case round =>
      obtain ⟨k, rfl, hk, rfl, rfl⟩ := hrel
      obtain ⟨s1, s2⟩ := HBND.out k
      by_cases hkM : k < M
      · obtain ⟨x, hx⟩ : ∃ x, P[k]? = some x := ⟨_, List.getElem?_eq_getElem (by rw [HM.out]; exact hkM)⟩
        obtain ⟨hxm, hxf⟩ := HMEM.out x (List.mem_iff_getElem?.2 ⟨k, hx⟩)
        obtain ⟨g, o, hA, _, hc⟩ := HI.out (by rintro e; have := congrArg List.length e; rw [List.length_map, HM.out] at this; simp at this; omega)
        subst hA
        have c1 := hc k (by rw [List.length_map, HM.out]; exact hkM)
        rw [show (P.map Hd.id).getD k 0 = x.id by simp [List.getD, hx]] at c1
        have hst := HSTEP.out k x hx
        have hlt := short_take HSH.out (k := k) (by rw [HM.out]; exact hkM)
        obtain ⟨t1, t2⟩ := HBND.out (k + 1)
        rw [hst] at t1 t2
        have HST := Lib.hid hst
        have HXM := Lib.hid hxm
        clear hx hc hst hxm
        go_wp2_with fail
        refine (frames_calls A n c hs x w3 HN.out (HL.out.kept HK3.out) HGD.out HXM.out).mono ?_
        rintro e w' ⟨rfl, rfl⟩
        go_wp2_with fail
        go_roundw
        case rel => exact ⟨k + 1, by go_num, by omega, by rw [HST.out]; congr 1; omega, trivial⟩
        case measure => simp [intOf]; omega
      · obtain rfl : M = k := by omega
        rw [HALL.out] at s1 s2 ⊢
        by_cases hw : (G : Int) ≤ F + sumfr P
        · go_wp2_with fail
          go_returns
          exact ⟨rfl, HK3.out⟩
        · have he : sumfr P = sumfr hs := HTOT.out (HEN.out.resolve_left hw)
          rw [he] at hw s1 s2 ⊢
          clear he
          go_wp2_with fail
          refine (held_calls A n c hs w3 HN.out hb (HL.out.kept HK3.out)).mono ?_
          rw [HSUM.out]
          rintro e w4 ⟨rfl, hk4⟩
          have HK4 := Lib.hid (HK3.out.trans hk4)
          clear hk4
          go_wp2_with fail
          go_returns
          exact ⟨rfl, HK4.out⟩
  · rw [chk_bad hg]
    rintro e w2 ⟨rfl, hk2⟩
    have HK2 := Lib.hid (HK1.out.trans hk2)
    clear hk2 hg
    go_wp2_with fail
    go_returns
    exact ⟨rfl, HK2.out⟩
end Go.Proofs.Ytflljldmcidhgaa

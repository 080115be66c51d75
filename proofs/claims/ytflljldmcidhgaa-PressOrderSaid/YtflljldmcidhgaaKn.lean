/- The chapter's examples: awake, PressKnown's walk. -/
import Derived.Test.YtflljldmcidhgaaOf
namespace Go.Proofs.Ytflljldmcidhgaa
open Go.RowKit
set_option linter.unusedVariables false
set_option linter.unusedSimpArgs false
set_option linter.unnecessarySimpa false

theorem ints_new (w : World) (xs : List Int) : Ints (w.alloc (.cells (xs.map (Value.int .i64)).toArray 3)) (some ⟨w.heap.size, 0, none⟩) xs := fun _ => ⟨w.heap.size, 0, rfl, by simp, fun i hi => by
  rw [(Blk.new w 3 _).cell]
  simp [List.getD, List.getElem?_eq_getElem hi]⟩

theorem ints_nil (w : World) (A : Option Addr) : Ints w A [] := fun h => absurd rfl h
theorem hs_nil (w : World) (A : Option Addr) : Hs w A [] := fun h => absurd rfl h

theorem victim_true (A : Option Addr) (n c : Nat) (hs : List Hd) (r er : Int) (w : World) (hn : n = hs.length * 2) (hb : n ≤ 1000) (h : Ints w A (nums hs)) (hbd : ∀ x ∈ hs, x.id ≤ 9223372036854775807) (hv : victimv hs = (r, er)) :
    Calls Try.prog 20 #[.int .i64 r, .int .i64 er, .slice A n c] w fun e w' => e = .returned (.bool true) ∧ Kept w w' := by
  have hc := of_calls A n c hs w hn hb h
  have HBD := Lib.hid hbd
  have HV := Lib.hid hv
  have HC := Lib.hid hc
  have bl : hs.length ≤ 1000 := by omega
  clear hc h hbd hv hn
  go_enter Try.func20, Try.ntmps20
  go_wp2_with fail
  refine HC.out.mono ?_
  rintro e w1 ⟨A1, c1, rfl, ho, hk⟩
  have HH := Lib.hid (hs_of_own ho)
  have HK := Lib.hid hk
  clear ho hk
  go_wp2_with fail
  refine (victim_calls A1 hs.length c1 hs w1 rfl (by omega) HH.out HBD.out).mono ?_
  rw [HV.out]
  rintro e w2 ⟨rfl, hk2⟩
  have HK2 := Lib.hid (HK.out.trans hk2)
  clear hk2
  go_wp2_with fail
  go_returns
  exact ⟨by simp, HK2.out⟩

theorem plans_true (A B : Option Addr) (n c m c' : Nat) (hs out : List Hd) (f want th er : Int) (w : World) (hn : hs.length = n) (hm : out.length = m) (hb : n ≤ 1000) (hbm : m ≤ 1000) (h : Hs w A hs) (hB : Ints w B (out.map Hd.id)) (hbd : ∀ x ∈ hs, x.id ≤ 9223372036854775807) (hv : planv hs f want = ⟨out, th, er⟩) :
    Calls Try.prog 21 #[.slice A n c, .int .i64 f, .int .i64 want, .slice B m c', .int .i64 th, .int .i64 er] w fun e w' => e = .returned (.bool true) ∧ Kept w w' := by
  have hc := plan_calls A n c hs f want w hn (by omega) h hbd
  rw [hv] at hc
  simp only [hm] at hc
  have HC := Lib.hid hc
  have HB := Lib.hid hB
  have HM := Lib.hid hm
  clear hc h hB hbd hv hn hm
  go_enter Try.func21, Try.ntmps21
  go_wp2_with fail
  refine HC.out.mono ?_
  rintro e w1 ⟨A1, c1, rfl, ho, hk⟩
  have HI := Lib.hid (ints_of_own ho)
  have HK := Lib.hid hk
  clear ho hk
  go_wp2_with fail
  refine (same_ints A1 B m c1 c' (out.map Hd.id) w1 (by rw [List.length_map]; exact HM.out.symm) (by omega) HI.out (HB.out.kept HK.out)).mono ?_
  rintro e w2 ⟨rfl, q, rfl⟩
  have HK2 := Lib.hid (HK.out.drewN q)
  go_wp2_with fail
  go_returns
  exact ⟨by simp, HK2.out⟩


def ha : List Hd := [⟨3, 2⟩, ⟨1, 5⟩, ⟨2, 5⟩]
def hb : List Hd := [⟨0, 1⟩]
def hc : List Hd := [⟨3, 2⟩, ⟨1, 5⟩]
def hd : List Hd := [⟨1, 0⟩]
def he : List Hd := []
def hf : List Hd := [⟨1, 1⟩, ⟨1, 2⟩]
def hg : List Hd := [⟨1, 65⟩]
def hh : List Hd := [⟨1, 64⟩]
theorem good_a : Good ha := (Good.iff _).2 ⟨by decide, by simp [ha], by decide⟩
theorem good_c : Good hc := (Good.iff _).2 ⟨by decide, by simp [hc], by decide⟩
theorem good_d : Good hd := (Good.iff _).2 ⟨by decide, by simp [hd], by decide⟩
theorem good_e : Good he := (Good.iff _).2 ⟨by decide, by simp [he], by decide⟩
theorem good_h : Good hh := (Good.iff _).2 ⟨by decide, by simp [hh], by decide⟩
theorem bad_b : ¬ Good hb := by rw [Good.iff]; rintro ⟨_, h, h2⟩; revert h h2; simp [hb]
theorem bad_f : ¬ Good hf := by rw [Good.iff]; rintro ⟨_, h, h2⟩; revert h h2; simp [hf]
theorem bad_g : ¬ Good hg := by rw [Good.iff]; rintro ⟨_, h, h2⟩; revert h h2; simp [hg]
theorem bd_a : ∀ x ∈ ha, x.id ≤ 9223372036854775807 := by simp [ha]
theorem bd_b : ∀ x ∈ hb, x.id ≤ 9223372036854775807 := by simp [hb]
theorem bd_c : ∀ x ∈ hc, x.id ≤ 9223372036854775807 := by simp [hc]
theorem bd_d : ∀ x ∈ hd, x.id ≤ 9223372036854775807 := by simp [hd]
theorem bd_e : ∀ x ∈ he, x.id ≤ 9223372036854775807 := by simp [he]
theorem bd_f : ∀ x ∈ hf, x.id ≤ 9223372036854775807 := by simp [hf]
theorem bd_g : ∀ x ∈ hg, x.id ≤ 9223372036854775807 := by simp [hg]
theorem bd_h : ∀ x ∈ hh, x.id ≤ 9223372036854775807 := by simp [hh]
theorem vics_a : vics ha = [⟨1, 5⟩, ⟨2, 5⟩, ⟨3, 2⟩] := by kernel_rfl
theorem vics_c : vics hc = [⟨1, 5⟩, ⟨3, 2⟩] := by kernel_rfl
theorem vics_d : vics hd = [] := by kernel_rfl
theorem vics_e : vics he = [] := by kernel_rfl
theorem vics_h : vics hh = [⟨1, 64⟩] := by kernel_rfl
theorem vic_a : victimv ha = (1, 0) := by unfold victimv; rw [if_pos good_a, vics_a]; rfl
theorem vic_b : victimv hb = (0, 2) := by unfold victimv; rw [if_neg bad_b]
theorem vic_d : victimv hd = (0, 16) := by unfold victimv; rw [if_pos good_d, vics_d]; rfl
theorem vic_e : victimv he = (0, 16) := by unfold victimv; rw [if_pos good_e, vics_e]; rfl
theorem vic_f : victimv hf = (0, 2) := by unfold victimv; rw [if_neg bad_f]
theorem plan_0 : planv ha 1 7 = ⟨[⟨1, 5⟩, ⟨2, 5⟩], 11, 0⟩ := by unfold planv; rw [if_pos ⟨good_a, by omega, by omega, by omega, by omega⟩, vics_a]; rfl
theorem plan_1 : planv hc 9 7 = ⟨[], 9, 0⟩ := by unfold planv; rw [if_pos ⟨good_c, by omega, by omega, by omega, by omega⟩, vics_c]; rfl
theorem plan_2 : planv hc 0 50 = ⟨[⟨1, 5⟩, ⟨3, 2⟩], 7, 0⟩ := by unfold planv; rw [if_pos ⟨good_c, by omega, by omega, by omega, by omega⟩, vics_c]; rfl
theorem plan_3 : planv he 3 9 = ⟨[], 3, 0⟩ := by unfold planv; rw [if_pos ⟨good_e, by omega, by omega, by omega, by omega⟩, vics_e]; rfl
theorem plan_4 : planv he (-1) 9 = ⟨[], 0, 2⟩ := by unfold planv; rw [if_neg (by omega)]
theorem held_c : heldv hc = 7 := by unfold heldv; rw [if_pos good_c]; rfl
theorem held_g : heldv hg = 0 := by unfold heldv; rw [if_neg bad_g]

set_option maxRecDepth 100000 in
set_option maxHeartbeats 4000000 in
theorem awake_calls (w : World) : Calls Try.prog 8 #[] w fun e w' => e = .returned (.bool true) ∧ Kept w w' := by
  go_enter Try.func8, Try.ntmps8
  have HK := Lib.hid (Only.refl (fun _ => False) w)

  go_wp2_with fail
  have A1 := Lib.hid (show Ints (w.alloc (.cells #[.int .i64 3, .int .i64 2, .int .i64 1, .int .i64 5, .int .i64 2, .int .i64 5] 3)) (some ⟨w.heap.size, 0, none⟩) [3, 2, 1, 5, 2, 5] from ints_new w [3, 2, 1, 5, 2, 5])
  refine (victim_true _ 6 6 ha _ _ _ rfl (by omega) A1.out bd_a vic_a).mono ?_
  rintro e w2 ⟨rfl, hk2⟩
  have HK2 := Lib.hid ((HK.out.alloc _).trans hk2)
  clear hk2
  go_wp2_with fail
  have A3 := Lib.hid (show Ints (w2.alloc (.cells #[.int .i64 0, .int .i64 1] 3)) (some ⟨w2.heap.size, 0, none⟩) [0, 1] from ints_new w2 [0, 1])
  refine (victim_true _ 2 2 hb _ _ _ rfl (by omega) A3.out bd_b vic_b).mono ?_
  rintro e w4 ⟨rfl, hk4⟩
  have HK4 := Lib.hid ((HK2.out.alloc _).trans hk4)
  clear hk4
  go_wp2_with fail
  have A5 := Lib.hid (show Ints (w4.alloc (.cells #[.int .i64 3, .int .i64 2, .int .i64 1, .int .i64 5, .int .i64 2, .int .i64 5] 3)) (some ⟨w4.heap.size, 0, none⟩) [3, 2, 1, 5, 2, 5] from ints_new w4 [3, 2, 1, 5, 2, 5])
  refine (of_calls _ 6 6 ha _ rfl (by omega) A5.out).mono ?_
  rintro e w6 ⟨B6, c6, rfl, ho6, hk6⟩
  have HH6 := Lib.hid (hs_of_own ho6)
  have HK6 := Lib.hid ((HK4.out.alloc _).trans hk6)
  clear hk6 ho6
  go_wp2_with fail
  have A7 := Lib.hid (show Ints (w6.alloc (.cells #[.int .i64 1, .int .i64 2] 3)) (some ⟨w6.heap.size, 0, none⟩) [1, 2] from ints_new w6 [1, 2])
  refine (plans_true _ _ 3 _ 2 _ ha _ _ _ _ _ _ rfl rfl (by omega) (by omega) (HH6.out.kept ((Only.refl (fun _ => False) _).alloc _)) A7.out bd_a plan_0).mono ?_
  rintro e w8 ⟨rfl, hk8⟩
  have HK8 := Lib.hid ((HK6.out.alloc _).trans hk8)
  clear hk8
  go_wp2_with fail
  have A9 := Lib.hid (show Ints (w8.alloc (.cells #[.int .i64 3, .int .i64 2, .int .i64 1, .int .i64 5] 3)) (some ⟨w8.heap.size, 0, none⟩) [3, 2, 1, 5] from ints_new w8 [3, 2, 1, 5])
  refine (of_calls _ 4 4 hc _ rfl (by omega) A9.out).mono ?_
  rintro e w10 ⟨B10, c10, rfl, ho10, hk10⟩
  have HH10 := Lib.hid (hs_of_own ho10)
  have HK10 := Lib.hid ((HK8.out.alloc _).trans hk10)
  clear hk10 ho10
  go_wp2_with fail
  refine (held_calls _ 2 _ hc _ rfl (by omega) HH10.out).mono ?_
  rw [held_c]
  rintro e w11 ⟨rfl, hk11⟩
  have HK11 := Lib.hid (HK10.out.trans hk11)
  clear hk11
  go_wp2_with fail
  go_returns
  exact ⟨rfl, HK11.out⟩

set_option maxRecDepth 100000 in
set_option maxHeartbeats 4000000 in
theorem known_calls (w : World) : Calls Try.prog 4 #[] w fun e w' => e = .returned (.bool true) ∧ Kept w w' := by
  go_enter Try.func4, Try.ntmps4
  have HK := Lib.hid (Only.refl (fun _ => False) w)

  go_wp2_with fail
  have A12 := Lib.hid (show Ints (w.alloc (.cells #[.int .i64 1, .int .i64 0] 3)) (some ⟨w.heap.size, 0, none⟩) [1, 0] from ints_new w [1, 0])
  refine (victim_true _ 2 2 hd _ _ _ rfl (by omega) A12.out bd_d vic_d).mono ?_
  rintro e w13 ⟨rfl, hk13⟩
  have HK13 := Lib.hid ((HK.out.alloc _).trans hk13)
  clear hk13
  go_wp2_with fail
  refine (victim_true none 0 0 he _ _ _ rfl (by omega) (ints_nil _ _) bd_e vic_e).mono ?_
  rintro e w14 ⟨rfl, hk14⟩
  have HK14 := Lib.hid (HK13.out.trans hk14)
  clear hk14
  go_wp2_with fail
  have A15 := Lib.hid (show Ints (w14.alloc (.cells #[.int .i64 1, .int .i64 1, .int .i64 1, .int .i64 2] 3)) (some ⟨w14.heap.size, 0, none⟩) [1, 1, 1, 2] from ints_new w14 [1, 1, 1, 2])
  refine (victim_true _ 4 4 hf _ _ _ rfl (by omega) A15.out bd_f vic_f).mono ?_
  rintro e w16 ⟨rfl, hk16⟩
  have HK16 := Lib.hid ((HK14.out.alloc _).trans hk16)
  clear hk16
  go_wp2_with fail
  have A17 := Lib.hid (show Ints (w16.alloc (.cells #[.int .i64 3, .int .i64 2, .int .i64 1, .int .i64 5] 3)) (some ⟨w16.heap.size, 0, none⟩) [3, 2, 1, 5] from ints_new w16 [3, 2, 1, 5])
  refine (of_calls _ 4 4 hc _ rfl (by omega) A17.out).mono ?_
  rintro e w18 ⟨B18, c18, rfl, ho18, hk18⟩
  have HH18 := Lib.hid (hs_of_own ho18)
  have HK18 := Lib.hid ((HK16.out.alloc _).trans hk18)
  clear hk18 ho18
  go_wp2_with fail
  refine (plans_true _ _ 2 _ 0 _ hc _ _ _ _ _ _ rfl rfl (by omega) (by omega) HH18.out (ints_nil _ _) bd_c plan_1).mono ?_
  rintro e w19 ⟨rfl, hk19⟩
  have HK19 := Lib.hid (HK18.out.trans hk19)
  clear hk19
  go_wp2_with fail
  have A20 := Lib.hid (show Ints (w19.alloc (.cells #[.int .i64 3, .int .i64 2, .int .i64 1, .int .i64 5] 3)) (some ⟨w19.heap.size, 0, none⟩) [3, 2, 1, 5] from ints_new w19 [3, 2, 1, 5])
  refine (of_calls _ 4 4 hc _ rfl (by omega) A20.out).mono ?_
  rintro e w21 ⟨B21, c21, rfl, ho21, hk21⟩
  have HH21 := Lib.hid (hs_of_own ho21)
  have HK21 := Lib.hid ((HK19.out.alloc _).trans hk21)
  clear hk21 ho21
  go_wp2_with fail
  have A22 := Lib.hid (show Ints (w21.alloc (.cells #[.int .i64 1, .int .i64 3] 3)) (some ⟨w21.heap.size, 0, none⟩) [1, 3] from ints_new w21 [1, 3])
  refine (plans_true _ _ 2 _ 2 _ hc _ _ _ _ _ _ rfl rfl (by omega) (by omega) (HH21.out.kept ((Only.refl (fun _ => False) _).alloc _)) A22.out bd_c plan_2).mono ?_
  rintro e w23 ⟨rfl, hk23⟩
  have HK23 := Lib.hid ((HK21.out.alloc _).trans hk23)
  clear hk23
  go_wp2_with fail
  refine (plans_true _ _ 0 _ 0 _ he _ _ _ _ _ _ rfl rfl (by omega) (by omega) (hs_nil _ _) (ints_nil _ _) bd_e plan_3).mono ?_
  rintro e w24 ⟨rfl, hk24⟩
  have HK24 := Lib.hid (HK23.out.trans hk24)
  clear hk24
  go_wp2_with fail
  refine (plans_true _ _ 0 _ 0 _ he _ _ _ _ _ _ rfl rfl (by omega) (by omega) (hs_nil _ _) (ints_nil _ _) bd_e plan_4).mono ?_
  rintro e w25 ⟨rfl, hk25⟩
  have HK25 := Lib.hid (HK24.out.trans hk25)
  clear hk25
  go_wp2_with fail
  refine (awake_calls _).mono ?_
  rintro e w26 ⟨rfl, hk26⟩
  have HK26 := Lib.hid (HK25.out.trans hk26)
  clear hk26
  go_wp2_with fail
  have A27 := Lib.hid (show Ints (w26.alloc (.cells #[.int .i64 1, .int .i64 65] 3)) (some ⟨w26.heap.size, 0, none⟩) [1, 65] from ints_new w26 [1, 65])
  refine (of_calls _ 2 2 hg _ rfl (by omega) A27.out).mono ?_
  rintro e w28 ⟨B28, c28, rfl, ho28, hk28⟩
  have HH28 := Lib.hid (hs_of_own ho28)
  have HK28 := Lib.hid ((HK26.out.alloc _).trans hk28)
  clear hk28 ho28
  go_wp2_with fail
  refine (held_calls _ 1 _ hg _ rfl (by omega) HH28.out).mono ?_
  rw [held_g]
  rintro e w29 ⟨rfl, hk29⟩
  have HK29 := Lib.hid (HK28.out.trans hk29)
  clear hk29
  go_wp2_with fail
  have A30 := Lib.hid (show Ints (w29.alloc (.cells #[.int .i64 1, .int .i64 64] 3)) (some ⟨w29.heap.size, 0, none⟩) [1, 64] from ints_new w29 [1, 64])
  refine (of_calls _ 2 2 hh _ rfl (by omega) A30.out).mono ?_
  rintro e w31 ⟨B31, c31, rfl, ho31, hk31⟩
  have HH31 := Lib.hid (hs_of_own ho31)
  have HK31 := Lib.hid ((HK29.out.alloc _).trans hk31)
  clear hk31 ho31
  go_wp2_with fail
  refine (check_calls _ 1 _ hh _ rfl (by omega) HH31.out).mono ?_
  rw [chk_good good_h]
  rintro e w32 ⟨rfl, hk32⟩
  have HK32 := Lib.hid (HK31.out.trans hk32)
  clear hk32
  go_wp2_with fail
  have A33 := Lib.hid (show Ints (w32.alloc (.cells #[.int .i64 1, .int .i64 65] 3)) (some ⟨w32.heap.size, 0, none⟩) [1, 65] from ints_new w32 [1, 65])
  refine (of_calls _ 2 2 hg _ rfl (by omega) A33.out).mono ?_
  rintro e w34 ⟨B34, c34, rfl, ho34, hk34⟩
  have HH34 := Lib.hid (hs_of_own ho34)
  have HK34 := Lib.hid ((HK32.out.alloc _).trans hk34)
  clear hk34 ho34
  go_wp2_with fail
  refine (check_calls _ 1 _ hg _ rfl (by omega) HH34.out).mono ?_
  rw [chk_bad bad_g]
  rintro e w35 ⟨rfl, hk35⟩
  have HK35 := Lib.hid (HK34.out.trans hk35)
  clear hk35
  go_wp2_with fail
  go_returns
  exact ⟨rfl, HK35.out⟩
end Go.Proofs.Ytflljldmcidhgaa

/- PoolActs: acted: Retain, Release. -/
import Derived.Deep.RegionHeld3
import Derived.Test.YtjfbanemjceimaaAcW
namespace Go.Proofs.Ytjfbanemjceimaa
open Go.RowKit Go.Maps
set_option linter.unusedVariables false
set_option linter.unusedSimpArgs false
set_option linter.unnecessarySimpa false

section
variable {w W0 : World} {p q lb N Q T lo hi lo2 hi2 : Nat} {fs rs : List Fr}

set_option maxRecDepth 100000 in
set_option maxHeartbeats 2000000 in
theorem acted_1 (b c d : Int) (h : ActSt w W0 p q lb N Q T lo hi lo2 hi2 fs rs) (hT : T + 64 ≤ 900000) : Acted w W0 p q lb N Q T lo hi lo2 hi2 1 b c d := by
  unfold Acted
  have h1 := h.keep ((Only.refl (fun _ => False) W0).alloc (.cells #[.int .i64 1, .int .i64 b, .int .i64 c, .int .i64 d] 23))
  have E1 := h.al.why b c
  have E3 := al_retainedI h.al b c
  have H1 := Lib.hid h1
  have HE3 := Lib.hid E3
  have a1 := h.hl
  have a2 := h.l2
  have a4 := h.lo1
  have a6 := h.ab
  have a7 := h.ref.inlb
  have hab : ¬ (lo ≤ W0.heap.size ∧ W0.heap.size < hi) := by omega
  have hab2 : ¬ W0.heap.size = lb := by omega
  obtain ⟨r1, hr1⟩ : ∃ r, why fs b c = r := ⟨_, rfl⟩
  have HA := fun w1 (hr : Pool w1 p N Q T lo hi fs) => pool_retain b c w1 hr (by omega)
  rw [hr1] at HA
  have HB := fun w1 (hr : RP w1 q lb N Q T lo2 hi2 rs) => rret_ok b c w1 hr (by omega)
  rw [← E1, hr1] at HB
  have HHA := Lib.hid HA
  have HHB := Lib.hid HB
  obtain ⟨q0, q1, q2, q3⟩ := box_cells W0 (.int .i64 1) (.int .i64 b) (.int .i64 c) (.int .i64 d)
  have hlt : W0.heap.size < (W0.alloc (.cells #[.int .i64 1, .int .i64 b, .int .i64 c, .int .i64 d] 23)).heap.size := by simp
  clear h h1 E1 E3 HA HB hr1
  go_enter Try.func26, Try.ntmps26
  go_wp2_with fail
  generalize (W0.alloc (.cells #[.int .i64 1, .int .i64 b, .int .i64 c, .int .i64 d] 23)) = W1 at *
  go_region_held3 (fun w' => w'.cell? ⟨W0.heap.size, 1, none⟩ = some (.int .i64 b) ∧ w'.cell? ⟨W0.heap.size, 2, none⟩ = some (.int .i64 c)) (first | exact ⟨t1, t2⟩ | exact ⟨s1, s2⟩ | exact ⟨q1, q2⟩) (first
    | (go_at_call 12; refine (HHA.out _ ?_).mono ?_; exact H1.out.pool.kept ((Only.refl (fun _ => False) W1).drewN 1); rintro e w1 ⟨rfl, ho1, hp1⟩; have s1 := only_cell ho1 (kept_cell ((Only.refl (fun _ => False) W1).drewN 1) q1) hab; have s2 := only_cell ho1 (kept_cell ((Only.refl (fun _ => False) W1).drewN 1) q2) hab; have HO1 := Lib.hid ho1; have HP1 := Lib.hid hp1; clear ho1 hp1)
    | (go_at_call 36; refine (HHB.out _ ?_).mono ?_; exact (H1.out.keep ((Only.refl (fun _ => False) W1).drewN 1)).ref1 HO1.out; rintro e w2 ⟨rfl, ho2, hp2⟩; have t1 := only_cell ho2 s1 hab2; have t2 := only_cell ho2 s2 hab2; have HO2 := Lib.hid ho2; have HP2 := Lib.hid hp2; clear ho2 hp2)
    | fail "no arm")
  all_goals
    go_wp2_with fail
    go_returns
    exact ⟨rfl, _, _, ((H1.out.keep ((Only.refl (fun _ => False) W1).drewN 1)).turn HO1.out HP1.out (der_retainedI _ fs b c) HO2.out HP2.out (der_retainedI _ rs b c) HE3.out).mono (by omega) hT⟩

set_option maxRecDepth 100000 in
set_option maxHeartbeats 2000000 in
theorem acted_2 (b c d : Int) (h : ActSt w W0 p q lb N Q T lo hi lo2 hi2 fs rs) (hT : T + 64 ≤ 900000) : Acted w W0 p q lb N Q T lo hi lo2 hi2 2 b c d := by
  unfold Acted
  have h1 := h.keep ((Only.refl (fun _ => False) W0).alloc (.cells #[.int .i64 2, .int .i64 b, .int .i64 c, .int .i64 d] 23))
  have E1 := h.al.why b c
  have hpos : ∀ (i : Nat) (x : Fr), rs[i]? = some x → x.own ≠ 0 → 1 ≤ x.hand := fun i x hx h0 => by
    obtain ⟨y, hy, e1, e2, _⟩ := h.al.symm.get hx
    have hk := h.pool.ok i y hy
    have : y.hand ≠ 0 := fun e => h0 (by rw [← e1]; exact hk.2.2.2.2.2 e)
    omega
  have E3 := al_releasedI h.al b c
  have H1 := Lib.hid h1
  have HE3 := Lib.hid E3
  have a1 := h.hl
  have a2 := h.l2
  have a4 := h.lo1
  have a6 := h.ab
  have a7 := h.ref.inlb
  have hab : ¬ (lo ≤ W0.heap.size ∧ W0.heap.size < hi) := by omega
  have hab2 : ¬ W0.heap.size = lb := by omega
  obtain ⟨r1, hr1⟩ : ∃ r, why fs b c = r := ⟨_, rfl⟩
  have HA := fun w1 (hr : Pool w1 p N Q T lo hi fs) => pool_release b c w1 hr (by omega)
  rw [hr1] at HA
  have HB := fun w1 (hr : RP w1 q lb N Q T lo2 hi2 rs) => rrel_ok b c w1 hr (by omega) hpos
  rw [← E1, hr1] at HB
  have HHA := Lib.hid HA
  have HHB := Lib.hid HB
  obtain ⟨q0, q1, q2, q3⟩ := box_cells W0 (.int .i64 2) (.int .i64 b) (.int .i64 c) (.int .i64 d)
  have hlt : W0.heap.size < (W0.alloc (.cells #[.int .i64 2, .int .i64 b, .int .i64 c, .int .i64 d] 23)).heap.size := by simp
  clear h h1 E1 E3 HA HB hr1
  go_enter Try.func26, Try.ntmps26
  go_wp2_with fail
  generalize (W0.alloc (.cells #[.int .i64 2, .int .i64 b, .int .i64 c, .int .i64 d] 23)) = W1 at *
  go_region_held3 (fun w' => w'.cell? ⟨W0.heap.size, 1, none⟩ = some (.int .i64 b) ∧ w'.cell? ⟨W0.heap.size, 2, none⟩ = some (.int .i64 c)) (first | exact ⟨t1, t2⟩ | exact ⟨s1, s2⟩ | exact ⟨q1, q2⟩) (first
    | (go_at_call 13; refine (HHA.out _ ?_).mono ?_; exact H1.out.pool.kept ((Only.refl (fun _ => False) W1).drewN 1); rintro e w1 ⟨rfl, ho1, hp1⟩; have s1 := only_cell ho1 (kept_cell ((Only.refl (fun _ => False) W1).drewN 1) q1) hab; have s2 := only_cell ho1 (kept_cell ((Only.refl (fun _ => False) W1).drewN 1) q2) hab; have HO1 := Lib.hid ho1; have HP1 := Lib.hid hp1; clear ho1 hp1)
    | (go_at_call 37; refine (HHB.out _ ?_).mono ?_; exact (H1.out.keep ((Only.refl (fun _ => False) W1).drewN 1)).ref1 HO1.out; rintro e w2 ⟨rfl, ho2, hp2⟩; have t1 := only_cell ho2 s1 hab2; have t2 := only_cell ho2 s2 hab2; have HO2 := Lib.hid ho2; have HP2 := Lib.hid hp2; clear ho2 hp2)
    | fail "no arm")
  all_goals
    go_wp2_with fail
    go_returns
    exact ⟨rfl, _, _, ((H1.out.keep ((Only.refl (fun _ => False) W1).drewN 1)).turn HO1.out HP1.out (der_releasedI _ fs b c) HO2.out HP2.out (der_releasedI _ rs b c) HE3.out).mono (by omega) hT⟩
end
end Go.Proofs.Ytjfbanemjceimaa

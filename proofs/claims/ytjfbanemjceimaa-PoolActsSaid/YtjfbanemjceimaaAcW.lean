/- PoolActs: acted: Acquire, Retain, Release, Reclaim, and what is no act. -/
import Derived.Test.YtjfbanemjceimaaAcP
namespace Go.Proofs.Ytjfbanemjceimaa
open Go.RowKit Go.Maps
set_option linter.unusedVariables false
set_option linter.unusedSimpArgs false
set_option linter.unnecessarySimpa false

theorem why_neg {fs : List Fr} {n : Int} (o : Int) (h : n < 0) : why fs n o = 18 := by
  unfold why at0
  simp [show ¬ (0 : Int) ≤ n by omega]

theorem al_retainedI {fs rs : List Fr} (h : Al fs rs) (n o : Int) : Al (retained fs n o) (retained rs n o) := by
  by_cases hn : n < 0
  · unfold Go.Proofs.Ytjfbanemjceimaa.retained
    rw [why_neg o hn, why_neg o hn, if_neg (by decide), if_neg (by decide)]
    exact h
  · obtain ⟨m, rfl⟩ := Int.eq_ofNat_of_zero_le (show (0 : Int) ≤ n by omega)
    exact h.retained m o

theorem al_releasedI {fs rs : List Fr} (h : Al fs rs) (n o : Int) : Al (released fs n o) (released rs n o) := by
  by_cases hn : n < 0
  · unfold Go.Proofs.Ytjfbanemjceimaa.released
    rw [why_neg o hn, why_neg o hn, if_neg (by decide), if_neg (by decide)]
    exact h
  · obtain ⟨m, rfl⟩ := Int.eq_ofNat_of_zero_le (show (0 : Int) ≤ n by omega)
    exact h.released m o

theorem der_retainedI (B : Nat) (fs : List Fr) (n o : Int) : Der B (retained fs n o) fs := by
  by_cases hn : n < 0
  · unfold Go.Proofs.Ytjfbanemjceimaa.retained
    rw [why_neg o hn, if_neg (by decide)]
    exact Der.refl _ _
  · obtain ⟨m, rfl⟩ := Int.eq_ofNat_of_zero_le (show (0 : Int) ≤ n by omega)
    exact Der.retained B m o

theorem der_releasedI (B : Nat) (fs : List Fr) (n o : Int) : Der B (released fs n o) fs := by
  by_cases hn : n < 0
  · unfold Go.Proofs.Ytjfbanemjceimaa.released
    rw [why_neg o hn, if_neg (by decide)]
    exact Der.refl _ _
  · obtain ⟨m, rfl⟩ := Int.eq_ofNat_of_zero_le (show (0 : Int) ≤ n by omega)
    exact Der.released B m o

theorem box_cells (w : World) (a b c d : Value) : (w.alloc (.cells #[a, b, c, d] 23)).cell? ⟨w.heap.size, 0, none⟩ = some a ∧ (w.alloc (.cells #[a, b, c, d] 23)).cell? ⟨w.heap.size, 1, none⟩ = some b ∧
    (w.alloc (.cells #[a, b, c, d] 23)).cell? ⟨w.heap.size, 2, none⟩ = some c ∧ (w.alloc (.cells #[a, b, c, d] 23)).cell? ⟨w.heap.size, 3, none⟩ = some d := by
  have h := Blk.new w 23 #[a, b, c, d]
  exact ⟨h.cell 0, h.cell 1, h.cell 2, h.cell 3⟩

section
variable {w W0 : World} {p q lb N Q T lo hi lo2 hi2 : Nat} {fs rs : List Fr}

/-- What acted promises. -/
def Acted (w W0 : World) (p q lb N Q T lo hi lo2 hi2 : Nat) (a b c d : Int) : Prop :=
  Calls Try.prog 26 #[.pointer (some ⟨p, 0, none⟩), .pointer (some ⟨q, 0, none⟩), .agg #[.int .i64 a, .int .i64 b, .int .i64 c, .int .i64 d]] W0 fun e w' => e = .returned (.bool true) ∧ ∃ fs' rs', ActSt w w' p q lb N Q (T + 64) lo hi lo2 hi2 fs' rs'

theorem ActSt.ab (h : ActSt w W0 p q lb N Q T lo hi lo2 hi2 fs rs) : hi2 ≤ W0.heap.size := h.ref.hiw

set_option maxRecDepth 100000 in
set_option maxHeartbeats 1000000 in
theorem acted_0 (b c d : Int) (h : ActSt w W0 p q lb N Q T lo hi lo2 hi2 fs rs) (hT : T + 64 ≤ 900000) : Acted w W0 p q lb N Q T lo hi lo2 hi2 0 b c d := by
  unfold Acted
  have h1 := h.keep ((Only.refl (fun _ => False) W0).alloc (.cells #[.int .i64 0, .int .i64 b, .int .i64 c, .int .i64 d] 23))
  obtain ⟨E1, E2, E3⟩ := h.al.acq Q c
  have H1 := Lib.hid h1
  have HE3 := Lib.hid E3
  have a1 := h.hl
  have a2 := h.l2
  have a4 := h.lo1
  have a6 := h.ab
  have a7 := h.ref.inlb
  have hab : ¬ (lo ≤ W0.heap.size ∧ W0.heap.size < hi) := by omega
  have hab2 : ¬ W0.heap.size = lb := by omega
  obtain ⟨r1, hr1⟩ : ∃ r, (acq fs Q c).1 = r := ⟨_, rfl⟩
  obtain ⟨r2, hr2⟩ : ∃ r, (acq fs Q c).2.1 = r := ⟨_, rfl⟩
  have HA := Lib.hid (pool_acq p N Q T lo hi fs c _ h1.pool (by omega))
  rw [hr1, hr2] at HA
  have HB := fun w1 (hr : RP w1 q lb N Q T lo2 hi2 rs) => racq_ok c w1 hr (by omega)
  rw [← E1, ← E2, hr1, hr2] at HB
  have HHB := Lib.hid HB
  obtain ⟨q0, q1, q2, q3⟩ := box_cells W0 (.int .i64 0) (.int .i64 b) (.int .i64 c) (.int .i64 d)
  clear h h1 E1 E2 E3 HB hr1 hr2
  go_enter Try.func26, Try.ntmps26
  go_wp2_with fail
  refine HA.out.mono ?_
  rintro e w1 ⟨rfl, ho1, hp1⟩
  replace q2 := only_cell ho1 q2 hab
  have HO1 := Lib.hid ho1
  have HP1 := Lib.hid hp1
  clear ho1 hp1
  go_wp2_with fail
  refine (HHB.out w1 (H1.out.ref1 HO1.out)).mono ?_
  rintro e w2 ⟨rfl, ho2, hp2⟩
  have HO2 := Lib.hid ho2
  have HP2 := Lib.hid hp2
  clear ho2 hp2
  go_wp2_with fail
  go_returns
  exact ⟨rfl, _, _, (H1.out.turn HO1.out HP1.out (Der.acq _ Q c) HO2.out HP2.out (Der.acq _ Q c) HE3.out).mono (by omega) hT⟩

set_option maxRecDepth 100000 in
set_option maxHeartbeats 1000000 in
theorem acted_4 (b c d : Int) (h : ActSt w W0 p q lb N Q T lo hi lo2 hi2 fs rs) (hT : T + 64 ≤ 900000) : Acted w W0 p q lb N Q T lo hi lo2 hi2 4 b c d := by
  unfold Acted
  have h1 := h.keep ((Only.refl (fun _ => False) W0).alloc (.cells #[.int .i64 4, .int .i64 b, .int .i64 c, .int .i64 d] 23))
  have E1 := h.al.many c
  have E3 := h.al.recl c
  have H1 := Lib.hid h1
  have HE3 := Lib.hid E3
  have a1 := h.hl
  have a2 := h.l2
  have a4 := h.lo1
  have a6 := h.ab
  have a7 := h.ref.inlb
  have hab : ¬ (lo ≤ W0.heap.size ∧ W0.heap.size < hi) := by omega
  have hab2 : ¬ W0.heap.size = lb := by omega
  obtain ⟨r1, hr1⟩ : ∃ r, many fs c = r := ⟨_, rfl⟩
  have HA := Lib.hid (pool_recl c _ h1.pool hT)
  rw [hr1] at HA
  have HB := fun w1 (hr : RP w1 q lb N Q T lo2 hi2 rs) => rrecl_ok c w1 hr
  rw [← E1, hr1] at HB
  have HHB := Lib.hid HB
  obtain ⟨q0, q1, q2, q3⟩ := box_cells W0 (.int .i64 4) (.int .i64 b) (.int .i64 c) (.int .i64 d)
  clear h h1 E1 E3 HB hr1
  go_enter Try.func26, Try.ntmps26
  go_wp2_with fail
  refine HA.out.mono ?_
  rintro e w1 ⟨rfl, ho1, hp1⟩
  replace q2 := only_cell ho1 q2 hab
  have HO1 := Lib.hid ho1
  have HP1 := Lib.hid hp1
  clear ho1 hp1
  go_wp2_with fail
  refine (HHB.out w1 (H1.out.ref1 HO1.out)).mono ?_
  rintro e w2 ⟨rfl, ho2, hp2⟩
  have HO2 := Lib.hid ho2
  have HP2 := Lib.hid hp2
  clear ho2 hp2
  go_wp2_with fail
  go_returns
  exact ⟨rfl, _, _, H1.out.turn HO1.out HP1.out (Der.recl _ c) HO2.out (HP2.out.mono (by omega) hT) (Der.recl _ c) HE3.out⟩

set_option maxRecDepth 100000 in
theorem acted_x (a b c d : Int) (h : ActSt w W0 p q lb N Q T lo hi lo2 hi2 fs rs) (hT : T + 64 ≤ 900000) (ha : a < 0 ∨ 5 < a) : Acted w W0 p q lb N Q T lo hi lo2 hi2 a b c d := by
  unfold Acted
  have H1 := Lib.hid (h.keep ((Only.refl (fun _ => False) W0).alloc (.cells #[.int .i64 a, .int .i64 b, .int .i64 c, .int .i64 d] 23)))
  obtain ⟨q0, q1, q2, q3⟩ := box_cells W0 (.int .i64 a) (.int .i64 b) (.int .i64 c) (.int .i64 d)
  have g0 : (a == 0) = false := by rw [beq_eq_false_iff_ne]; omega
  have g1 : (a == 1) = false := by rw [beq_eq_false_iff_ne]; omega
  have g2 : (a == 2) = false := by rw [beq_eq_false_iff_ne]; omega
  have g3 : (a == 3) = false := by rw [beq_eq_false_iff_ne]; omega
  have g4 : (a == 4) = false := by rw [beq_eq_false_iff_ne]; omega
  have g5 : (a == 5) = false := by rw [beq_eq_false_iff_ne]; omega
  clear h ha
  go_enter Try.func26, Try.ntmps26
  go_wp2_with fail
  go_returns
  exact ⟨rfl, _, _, H1.out.mono (by omega) hT⟩

end
end Go.Proofs.Ytjfbanemjceimaa

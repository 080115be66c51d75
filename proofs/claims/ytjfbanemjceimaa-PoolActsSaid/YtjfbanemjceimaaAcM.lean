/- PoolActs: acted: Memory. -/
import Derived.Test.YtjfbanemjceimaaAcX
namespace Go.Proofs.Ytjfbanemjceimaa
open Go.RowKit Go.Maps
set_option linter.unusedVariables false
set_option linter.unusedSimpArgs false
set_option linter.unnecessarySimpa false

section
variable {w W0 : World} {p q lb N Q T lo hi lo2 hi2 : Nat} {fs rs : List Fr}

set_option maxRecDepth 100000 in
set_option maxHeartbeats 4000000 in
theorem acted_3 (b c d : Int) (h : ActSt w W0 p q lb N Q T lo hi lo2 hi2 fs rs) (hd1 : -9223372036854775808 ≤ d) (hd2 : d ≤ 9223372036854775807) (hT : T + 64 ≤ 900000) : Acted w W0 p q lb N Q T lo hi lo2 hi2 3 b c d := by
  unfold Acted
  have h1 := h.keep ((Only.refl (fun _ => False) W0).alloc (.cells #[.int .i64 3, .int .i64 b, .int .i64 c, .int .i64 d] 23))
  have E1 := h.al.why b c
  have H1 := Lib.hid h1
  have a1 := h.hl
  have a2 := h.l2
  have a4 := h.lo1
  have a6 := h.ab
  have a7 := h.ref.inlb
  have hab : ¬ (lo ≤ W0.heap.size ∧ W0.heap.size < hi) := by omega
  have hab2 : ¬ W0.heap.size = lb := by omega
  obtain ⟨q0, q1, q2, q3⟩ := box_cells W0 (.int .i64 3) (.int .i64 b) (.int .i64 c) (.int .i64 d)
  by_cases hw : why fs b c = 0
  · obtain ⟨n, x, rfl, hx, hxo, h0⟩ := why_ok hw
    obtain ⟨y, hy, e1, e2, e3⟩ := h.al.get hx
    have HX := Lib.hid hx
    have HY := Lib.hid hy
    have HE3 := Lib.hid e3
    have HXO := Lib.hid hxo
    have hw2 : why rs n c = 0 := by rw [← E1]; exact hw
    have HW2 := Lib.hid hw2
    have HC0 := Lib.hid (show c ≠ 0 by rw [← hxo]; exact h0)
    have HBT := Lib.hid (h.bts n x hx)
    obtain ⟨t, ht, bt⟩ := pick_num d 300 (by omega)
    have Ht := Lib.hid ht
    clear h h1 E1 hw hx hxo h0 hy e1 e2 e3 hw2 ht
    go_enter Try.func26, Try.ntmps26
    go_wp2_with fail
    refine (pool_mem_own n c x _ H1.out.pool HX.out HXO.out HC0.out).mono ?_
    rintro e w1 ⟨m, rfl, ho1, hl1, hlt1, hp1⟩
    replace q1 := only_cell ho1 q1 hab
    replace q2 := only_cell ho1 q2 hab
    replace q3 := only_cell ho1 q3 hab
    have HO1 := Lib.hid ho1
    have HL1 := Lib.hid hl1
    have HP1 := Lib.hid hp1
    clear ho1 hl1 hp1 hlt1
    go_wp2_with fail
    refine (rmem_ok n c y w1 (H1.out.ref1 HO1.out) HY.out HW2.out).mono ?_
    rintro e w2 ⟨m', rfl, ho2, hl2, hlt2, hp2⟩
    replace q3 := only_cell ho2 q3 hab2
    have hst := H1.out.turn HO1.out HP1.out (Der.maded HL1.out) ho2 hp2 (Der.maded hl2) (H1.out.al.maded n m m')
    have hx2 := maded_get (m := m) HX.out
    have hy2 := maded_get (m := m') HY.out
    rw [HE3.out] at hy2
    have bm := hst.pool.memBlk hx2 rfl
    have bm' := (hst.ref.mem n _ m' _ hy2 rfl).1
    obtain ⟨v, hv⟩ := HBT.out.2 t (by omega)
    have c1 := (bm.cell t).trans hv
    have c2 := (bm'.cell t).trans hv
    have y1 := bm.frozen t
    have y2 := bm'.frozen t
    have l1 := bm.lt
    have l2 := bm'.lt
    have hmm : m ≠ m' := fun e => by subst e; exact hst.m12 n n _ _ _ _ _ hx2 hy2 rfl rfl
    have hmm2 : m' ≠ m := hmm.symm
    have HST := Lib.hid hst
    have HX2 := Lib.hid hx2
    have HY2 := Lib.hid hy2
    have z1 : (0 : Int) ≤ (t : Int) := by omega
    have z2 : (t : Int) < 152064 := by omega
    clear ho2 hl2 hp2 hlt2 hst hx2 hy2 bm bm' hv q1 q2 q0
    go_wp2_with fail
    refine (pick_nat d 300 t w2 (by omega) (by omega) hd1 hd2 Ht.out).mono ?_
    rintro e w' ⟨rfl, rfl⟩
    go_wp2_with fail
    go_region
    go_wp2_with fail
    go_returns
    exact ⟨rfl, _, _, ((HST.out.keep ((Only.refl (fun _ => False) w2).drew)).wrote HX2.out rfl HY2.out rfl (by omega)).mono (by omega) hT⟩
  · obtain ⟨r, hr⟩ : ∃ r, why fs b c = r := ⟨_, rfl⟩
    have hA := pool_mem_no b c _ h1.pool hw
    have hB := rmem_no b c _ h1.ref (by rw [← E1]; exact hw)
    rw [← E1] at hB
    rw [hr] at hA hB
    have HA := Lib.hid hA
    have HB := Lib.hid hB
    clear h h1 E1 hw hr hA hB
    go_enter Try.func26, Try.ntmps26
    go_wp2_with fail
    refine HA.out.mono ?_
    rintro e w' ⟨rfl, rfl⟩
    go_wp2_with fail
    refine HB.out.mono ?_
    rintro e w' ⟨rfl, rfl⟩
    go_wp2_with fail
    go_returns
    exact ⟨rfl, _, _, H1.out.mono (by omega) hT⟩
end
end Go.Proofs.Ytjfbanemjceimaa

/- The chapter's pool: three, awake. -/
import Derived.Test.YtjfbanemjceimaaPlX
namespace Go.Proofs.Ytjfbanemjceimaa
open Go.RowKit Go.Maps
set_option linter.unusedVariables false
set_option linter.unusedSimpArgs false
set_option linter.unnecessarySimpa false

theorem acquires_ok (p N Q T lo hi : Nat) (fs : List Fr) (o x er : Int) (w : World) (h : Pool w p N Q T lo hi fs) (hT : T + 1 ≤ 900000) :
    Calls Try.prog 21 #[.pointer (some ⟨p, 0, none⟩), .int .i64 o, .int .i64 x, .int .i64 er] w fun e w' => e = .returned (.bool (((acq fs Q o).1 == x) && ((acq fs Q o).2.1 == er))) ∧ Only (fun k => lo ≤ k ∧ k < hi) w w' ∧
      Pool w' p N Q (T + 1) lo hi (acq fs Q o).2.2 := by
  have hc := pool_acq p N Q T lo hi fs o w h hT
  obtain ⟨a, ha⟩ : ∃ a, acq fs Q o = a := ⟨_, rfl⟩
  rw [ha] at hc ⊢
  obtain ⟨a1, a2, a3⟩ := a
  simp only at hc ⊢
  have HC := Lib.hid hc
  clear hc ha h
  go_enter Try.func21, Try.ntmps21
  go_wp2_with fail
  refine HC.out.mono ?_
  rintro e w1 ⟨rfl, ho, hp⟩
  have HO := Lib.hid ho
  have HP := Lib.hid hp
  clear ho hp
  cases h1 : (a1 == x)
  · go_wp2_with fail
    go_returns
    exact ⟨by simp [h1], HO.out, HP.out⟩
  · go_wp2_with fail
    go_returns
    exact ⟨by simp [h1], HO.out, HP.out⟩

def fs3 : List Fr := [⟨5, 1, none⟩, ⟨5, 1, none⟩, ⟨6, 1, none⟩]

set_option maxHeartbeats 2000000 in
theorem three_ok (w : World) : Calls Try.prog 24 #[] w fun e w' => ∃ p, e = .returned (.pointer (some ⟨p, 0, none⟩)) ∧ Kept w w' ∧ ∃ lo hi, w.heap.size ≤ lo ∧ Pool w' p 3 2 10 lo hi fs3 := by
  go_enter Try.func24, Try.ntmps24
  go_wp2_with fail
  refine (pnew_ok 3 2 w (by omega) (by omega) (by omega) (by omega)).mono ?_
  rintro e w1 ⟨p, fb, ib, cap, mb, fbs, l, rfl, hk1, hpl⟩
  obtain ⟨hi, hhi⟩ : ∃ hi, w1.heap.size = hi := ⟨_, rfl⟩
  rw [hhi] at hpl
  have HP := Lib.hid (show Pool w1 p 3 2 0 w.heap.size hi (List.replicate 3 ⟨0, 0, none⟩) from ⟨fb, ib, cap, mb, fbs, l, _, hpl⟩)
  have HK := Lib.hid hk1
  clear hk1 hpl hhi
  go_wp2_with fail
  have ha0 : acq (List.replicate 3 ⟨0, 0, none⟩) 2 5 = (0, 0, [⟨5, 1, none⟩, ⟨0, 0, none⟩, ⟨0, 0, none⟩]) := by rfl
  refine (acquires_ok p 3 2 0 w.heap.size hi (List.replicate 3 ⟨0, 0, none⟩) 5 0 0 _ HP.out (by omega)).mono ?_
  rw [ha0]
  rintro e w2 ⟨rfl, ho, hp⟩
  have HP1 := Lib.hid hp
  have HK1 := Lib.hid (HK.out.trans' ho (fun q hq h => by omega))
  clear ho hp ha0
  go_wp2_with fail
  have ha1 : acq ([⟨5, 1, none⟩, ⟨0, 0, none⟩, ⟨0, 0, none⟩]) 2 5 = (1, 0, [⟨5, 1, none⟩, ⟨5, 1, none⟩, ⟨0, 0, none⟩]) := by rfl
  refine (acquires_ok p 3 2 1 w.heap.size hi ([⟨5, 1, none⟩, ⟨0, 0, none⟩, ⟨0, 0, none⟩]) 5 1 0 _ HP1.out (by omega)).mono ?_
  rw [ha1]
  rintro e w3 ⟨rfl, ho, hp⟩
  have HP2 := Lib.hid hp
  have HK2 := Lib.hid (HK1.out.trans' ho (fun q hq h => by omega))
  clear ho hp ha1
  go_wp2_with fail
  have ha2 : acq ([⟨5, 1, none⟩, ⟨5, 1, none⟩, ⟨0, 0, none⟩]) 2 5 = (0, 17, [⟨5, 1, none⟩, ⟨5, 1, none⟩, ⟨0, 0, none⟩]) := by rfl
  refine (acquires_ok p 3 2 2 w.heap.size hi ([⟨5, 1, none⟩, ⟨5, 1, none⟩, ⟨0, 0, none⟩]) 5 0 17 _ HP2.out (by omega)).mono ?_
  rw [ha2]
  rintro e w4 ⟨rfl, ho, hp⟩
  have HP3 := Lib.hid hp
  have HK3 := Lib.hid (HK2.out.trans' ho (fun q hq h => by omega))
  clear ho hp ha2
  go_wp2_with fail
  have ha3 : acq ([⟨5, 1, none⟩, ⟨5, 1, none⟩, ⟨0, 0, none⟩]) 2 6 = (2, 0, fs3) := by rfl
  refine (acquires_ok p 3 2 3 w.heap.size hi ([⟨5, 1, none⟩, ⟨5, 1, none⟩, ⟨0, 0, none⟩]) 6 2 0 _ HP3.out (by omega)).mono ?_
  rw [ha3]
  rintro e w5 ⟨rfl, ho, hp⟩
  have HP4 := Lib.hid hp
  have HK4 := Lib.hid (HK3.out.trans' ho (fun q hq h => by omega))
  clear ho hp ha3
  go_wp2_with fail
  have ha4 : acq (fs3) 2 7 = (0, 15, fs3) := by rfl
  refine (acquires_ok p 3 2 4 w.heap.size hi (fs3) 7 0 15 _ HP4.out (by omega)).mono ?_
  rw [ha4]
  rintro e w6 ⟨rfl, ho, hp⟩
  have HP5 := Lib.hid hp
  have HK5 := Lib.hid (HK4.out.trans' ho (fun q hq h => by omega))
  clear ho hp ha4
  go_wp2_with fail
  obtain ⟨fb2, ib2, cap2, mb2, fbs2, l2, f2, hpl2⟩ := HP5.out
  have hl2 : l2.length = 0 := hpl2.free_len
  refine (pfree_ok _ hpl2).mono ?_
  rw [hl2]
  rintro e w' ⟨rfl, rfl⟩
  clear hpl2 hl2
  go_wp2_with fail
  go_ret
  exact ⟨p, rfl, HK5.out, w.heap.size, hi, Nat.le_refl _, HP5.out.mono (by omega) (by omega)⟩
end Go.Proofs.Ytjfbanemjceimaa

/- awake. -/
import Derived.Test.YtjfbanemjceimaaPlY
namespace Go.Proofs.Ytjfbanemjceimaa
open Go.RowKit Go.Maps
set_option linter.unusedVariables false
set_option linter.unusedSimpArgs false
set_option linter.unnecessarySimpa false

set_option maxHeartbeats 2000000 in
theorem pawake_ok (w : World) : Calls Try.prog 18 #[] w fun e w' => e = .returned (.bool true) ∧ Kept w w' := by
  go_enter Try.func18, Try.ntmps18
  go_wp2_with fail
  refine (three_ok w).mono ?_
  rintro e w1 ⟨p, rfl, hk1, lo, hi, hlo, hp⟩
  have HP := Lib.hid hp
  have HK := Lib.hid hk1
  clear hk1 hp
  go_wp2_with fail
  have ha : why fs3 0 5 = 0 := by rfl
  refine (pool_retain 0 5 _ HP.out (by omega)).mono ?_
  rw [ha, show retained fs3 0 5 = [⟨5, 2, none⟩, ⟨5, 1, none⟩, ⟨6, 1, none⟩] by rfl]
  rintro e w2 ⟨rfl, ho, hp⟩
  have HP1 := Lib.hid hp
  have HK1 := Lib.hid (HK.out.trans' ho (fun q hq h => by omega))
  clear ho hp ha
  go_wp2_with fail
  refine (pool_release 0 5 _ HP1.out (by omega)).mono ?_
  rw [show why [⟨5, 2, none⟩, ⟨5, 1, none⟩, ⟨6, 1, none⟩] 0 5 = 0 by rfl, show released [⟨5, 2, none⟩, ⟨5, 1, none⟩, ⟨6, 1, none⟩] 0 5 = fs3 by rfl]
  rintro e w3 ⟨rfl, ho, hp⟩
  have HP2 := Lib.hid hp
  have HK2 := Lib.hid (HK1.out.trans' ho (fun q hq h => by omega))
  clear ho hp
  go_wp2_with fail
  refine (pool_handles 0 _ HP2.out).mono ?_
  rw [show at0 fs3 Fr.hand 0 = 1 by rfl]
  rintro e w' ⟨rfl, rfl⟩
  go_wp2_with fail
  refine (pool_release 0 6 _ HP2.out (by omega)).mono ?_
  rw [show why fs3 0 6 = 19 by rfl]
  rintro e w4 ⟨rfl, ho, hp⟩
  have HK3 := Lib.hid (HK2.out.trans' ho (fun q hq h => by omega))
  clear ho hp
  go_wp2_with fail
  go_ret
  exact ⟨rfl, HK3.out⟩
end Go.Proofs.Ytjfbanemjceimaa

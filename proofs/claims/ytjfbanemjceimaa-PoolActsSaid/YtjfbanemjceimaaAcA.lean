/- PoolActs: alike. -/
import Derived.Test.YtjfbanemjceimaaAcP
namespace Go.Proofs.Ytjfbanemjceimaa
open Go.RowKit Go.Maps
set_option linter.unusedVariables false
set_option linter.unusedSimpArgs false
set_option linter.unnecessarySimpa false

section
variable {w W0 : World} {p q lb N Q T lo hi lo2 hi2 : Nat} {fs rs : List Fr}

set_option maxRecDepth 100000 in
set_option maxHeartbeats 4000000 in
theorem alike_ok (o : Int) (h : ActSt w W0 p q lb N Q T lo hi lo2 hi2 fs rs) (b1 : -9223372036854775808 ≤ o) (b2 : o ≤ 9223372036854775807) :
    Calls Try.prog 27 #[.pointer (some ⟨p, 0, none⟩), .pointer (some ⟨q, 0, none⟩), .int .i64 o] W0 fun e w' => e = .returned (.bool true) ∧ Kept W0 w' := by
  have hlen := h.pool.len
  have hlen2 := h.ref.len
  have hN := h.ref.N64
  have H := Lib.hid h
  clear h
  go_enter Try.func27, Try.ntmps27
  go_wp2_with fail
  go_loopw [7] (fun v w1 => ∃ k : Nat, v = .int .i64 k ∧ k ≤ N ∧ Kept W0 w1) (fun v _ => N - (intOf v).toNat)
  case atStart => exact ⟨0, rfl, by omega, Only.refl _ _⟩
  case round =>
    obtain ⟨k, rfl, hk, hkp⟩ := hrel
    have h1 := H.out.keep hkp
    have H1 := Lib.hid h1
    have HK := Lib.hid hkp
    have k0 := h1.ref.box.cell 0
    simp at k0
    by_cases hkn : k < N
    · obtain ⟨x, hx⟩ : ∃ x, fs[k]? = some x := ⟨_, List.getElem?_eq_getElem (by omega)⟩
      obtain ⟨y, hy, e1, e2, _⟩ := h1.al.get hx
      obtain ⟨cs, htab, hrows⟩ := h1.ref.tab
      obtain ⟨a, b, c⟩ := hrows.2 k y hy
      have c0 := (htab.cell (k * 3)).trans a
      have c1 := (htab.cell (k * 3 + 1)).trans b
      rw [e1] at c0
      rw [e2] at c1
      have hH := fun n : Nat => pool_handles k (wr.drewN n) (h1.pool.kept ((Only.refl (fun _ => False) wr).drewN n))
      have hO := fun n : Nat => pool_owner k (wr.drewN n) (h1.pool.kept ((Only.refl (fun _ => False) wr).drewN n))
      simp only [at0_get _ hx] at hH hO
      obtain ⟨xo, hxo⟩ : ∃ a, x.own = a := ⟨_, rfl⟩
      obtain ⟨xh, hxh⟩ : ∃ a, x.hand = a := ⟨_, rfl⟩
      rw [hxo] at c0 hO
      rw [hxh] at c1 hH
      have z1 : (0 : Int) ≤ (k : Int) := by omega
      have z2 : (k : Int) < (N : Int) := by omega
      have HH := Lib.hid hH
      have HO := Lib.hid hO
      clear h1 hkp hx hy e1 e2 htab hrows a b c hH hO hxo hxh
      go_wp2_with fail
      go_quiet (first | (go_at_call 15; exact quiet_left (HH.out _)) | (go_at_call 14; exact quiet_left (HO.out _)) | fail "no arm")
      go_wp2_with fail
      go_roundw
      case rel => exact ⟨k + 1, by go_num, by omega, HK.out.trans ((Only.refl (fun _ => False) wr).drewN nq)⟩
      case measure => simp [intOf]; omega
    · have hkN : k = N := by omega
      have hF := pool_free h1.pool
      have hF2 := rfree_ok wr h1.ref
      have hH := pool_held o wr h1.pool b1 b2
      have hH2 := rheld_ok o wr h1.ref
      have hO := pool_owner (-1) wr h1.pool
      have hA := pool_handles (N : Int) wr h1.pool
      rw [show at0 fs Fr.own (-1) = 0 by unfold at0; rw [if_neg (by omega)]] at hO
      rw [show at0 fs Fr.hand (N : Int) = 0 by unfold at0; rw [if_pos (by omega), List.getElem?_eq_none (by simp; omega)]; rfl] at hA
      rw [← h1.al.cnt 0] at hF2
      rw [← h1.al.many o] at hH2
      unfold many at hH2
      obtain ⟨f0, hf0⟩ : ∃ a, cnt fs 0 = a := ⟨_, rfl⟩
      obtain ⟨m0, hm0⟩ : ∃ a : Int, (if 0 < o then (cnt fs o : Int) else 0) = a := ⟨_, rfl⟩
      rw [hf0] at hF hF2
      rw [hm0] at hH hH2
      have HF := Lib.hid hF
      have HF2 := Lib.hid hF2
      have HH := Lib.hid hH
      have HH2 := Lib.hid hH2
      have HO := Lib.hid hO
      have HA := Lib.hid hA
      clear h1 hkp hF hF2 hH hH2 hO hA hf0 hm0
      go_wp2_with fail
      refine HF.out.mono ?_
      rintro e w' ⟨rfl, rfl⟩
      go_wp2_with fail
      refine HF2.out.mono ?_
      rintro e w' ⟨rfl, rfl⟩
      go_wp2_with fail
      refine HH.out.mono ?_
      rintro e w' ⟨rfl, rfl⟩
      go_wp2_with fail
      refine HH2.out.mono ?_
      rintro e w' ⟨rfl, rfl⟩
      go_wp2_with fail
      refine HO.out.mono ?_
      rintro e w' ⟨rfl, rfl⟩
      go_wp2_with fail
      refine HA.out.mono ?_
      rintro e w' ⟨rfl, rfl⟩
      go_wp2_with fail
      go_returns
      exact ⟨rfl, HK.out⟩
end
end Go.Proofs.Ytjfbanemjceimaa

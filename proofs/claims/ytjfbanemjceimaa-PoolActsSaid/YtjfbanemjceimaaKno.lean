/- The chapter's examples: PoolKnown's walk. -/
import Derived.Test.YtjfbanemjceimaaLook
import Derived.Test.YtjfbanemjceimaaPlZ
namespace Go.Proofs.Ytjfbanemjceimaa
open Go.RowKit Go.Maps
set_option linter.unusedVariables false
set_option linter.unusedSimpArgs false
set_option linter.unnecessarySimpa false

theorem own_only {S : Nat → Prop} {w w' : World} {base n size : Nat} {e : TypeId} {v : Value} {xs : List Value} (h : w.ownsRow base e size v n xs) (ho : Only S w w') (hs : ∀ k, base ≤ k → ¬ S k) : w'.ownsRow base e size v n xs := by
  refine ⟨h.1, h.2.imp id ?_⟩
  rintro ⟨g, cp, cur, e1, e2, e3, e4⟩
  exact ⟨g, cp, cur, e1, e2, Only.blk ho (g := g) e3 (hs g e2), e4⟩

theorem Pool.hiw {w : World} {p N Q T lo hi : Nat} {fs : List Fr} (h : Pool w p N Q T lo hi fs) : hi ≤ w.heap.size := by
  obtain ⟨fb, ib, cap, mb, fbs, l, f, h⟩ := h
  exact h.hiw

theorem pre_zero (n : Nat) (hn : n ≤ 152064) : pre Z0 n = List.replicate n 0 := by
  apply List.ext_getElem?
  intro i
  by_cases hi : i < n
  · have h0 : byteAt Z0 i = 0 := by
      unfold byteAt
      rw [Z0_get i (by omega)]
      rfl
    simp [pre, hi, h0]
  · simp [pre, hi]

def fsA : List Fr := [⟨0, 0, none⟩, ⟨5, 1, none⟩, ⟨6, 1, none⟩]
def fsB : List Fr := [⟨6, 1, none⟩, ⟨5, 1, none⟩, ⟨6, 1, none⟩]
def fsC : List Fr := [⟨0, 0, none⟩, ⟨5, 1, none⟩, ⟨0, 0, none⟩]

theorem txt00 (w : World) : Txt (w.alloc (.cells #[.int .u8 0, .int .u8 0] 5)) (some ⟨w.heap.size, 0, none⟩) [0, 0] := fun _ => ⟨w.heap.size, 0, rfl, fun i hi => by
  have hb := Blk.new w 5 #[.int .u8 0, .int .u8 0]
  rw [Nat.zero_add, hb.cell]
  simp at hi
  rcases (show i = 0 ∨ i = 1 by omega) with rfl | rfl <;> rfl⟩

set_option maxRecDepth 100000 in
set_option maxHeartbeats 4000000 in
theorem pknown_ok (w : World) : Calls Try.prog 5 #[] w fun e w' => e = .returned (.bool true) ∧ Kept w w' := by
  go_enter Try.func5, Try.ntmps5
  go_wp2_with fail
  refine (three_ok w).mono ?_
  rintro e w1 ⟨p, rfl, hk1, lo, hi, hlo, hp⟩
  have HP := Lib.hid hp
  have HK := Lib.hid hk1
  clear hk1 hp

  go_wp2_with fail
  refine (pool_release 0 5 _ HP.out (by omega)).mono ?_
  rw [show why fs3 0 5 = 0 by rfl, show released fs3 0 5 = fsA by rfl]
  rintro e w2 ⟨rfl, ho, hp⟩
  have HP1 := Lib.hid hp
  have HK1 := Lib.hid (HK.out.trans' ho (fun q hq h => by omega))
  clear ho hp
  go_wp2_with fail
  refine (pool_handles 0 _ HP1.out).mono ?_
  rw [show at0 fsA Fr.hand 0 = 0 by rfl]
  rintro e w' ⟨rfl, rfl⟩
  go_wp2_with fail
  refine (pool_owner 0 _ HP1.out).mono ?_
  rw [show at0 fsA Fr.own 0 = 0 by rfl]
  rintro e w' ⟨rfl, rfl⟩
  go_wp2_with fail
  refine (pool_release 0 5 _ HP1.out (by omega)).mono ?_
  rw [show why fsA 0 5 = 18 by rfl, show released fsA 0 5 = fsA by rfl]
  rintro e w5 ⟨rfl, ho, hp⟩
  have HP4 := Lib.hid hp
  have HK4 := Lib.hid (HK1.out.trans' ho (fun q hq h => by omega))
  clear ho hp
  go_wp2_with fail
  refine (acquires_ok p 3 2 _ lo hi fsA 6 0 0 _ HP4.out (by omega)).mono ?_
  rw [show acq fsA 2 6 = (0, 0, fsB) by rfl]
  rintro e w6 ⟨rfl, ho, hp⟩
  have HP5 := Lib.hid hp
  have HK5 := Lib.hid (HK4.out.trans' ho (fun q hq h => by omega))
  clear ho hp
  go_wp2_with fail
  refine (pool_held 6 _ HP5.out (by omega) (by omega)).mono ?_
  rw [show (if (0:Int) < 6 then (cnt fsB 6 : Int) else 0) = 2 by rfl]
  rintro e w' ⟨rfl, rfl⟩
  go_wp2_with fail
  refine (reclaims_ok 6 2 _ HP5.out (by omega)).mono ?_
  rw [show (many fsB 6 == 2) = true by rfl, show recl fsB 6 = fsC by rfl]
  rintro e w8 ⟨rfl, ho, hp⟩
  have HP7 := Lib.hid hp
  have HK7 := Lib.hid (HK5.out.trans' ho (fun q hq h => by omega))
  clear ho hp
  go_wp2_with fail
  refine (pool_held 6 _ HP7.out (by omega) (by omega)).mono ?_
  rw [show (if (0:Int) < 6 then (cnt fsC 6 : Int) else 0) = 0 by rfl]
  rintro e w' ⟨rfl, rfl⟩
  go_wp2_with fail
  refine (reclaims_ok 6 0 _ HP7.out (by omega)).mono ?_
  rw [show (many fsC 6 == 0) = true by rfl, show recl fsC 6 = fsC by rfl]
  rintro e w10 ⟨rfl, ho, hp⟩
  have HP9 := Lib.hid hp
  have HK9 := Lib.hid (HK7.out.trans' ho (fun q hq h => by omega))
  clear ho hp
  go_wp2_with fail
  obtain ⟨fb2, ib2, cap2, mb2, fbs2, l2, f2, hpl2⟩ := HP9.out
  have hl2 : l2.length = 2 := hpl2.free_len
  refine (pfree_ok _ hpl2).mono ?_
  rw [hl2]
  rintro e w' ⟨rfl, rfl⟩
  clear hpl2 hl2
  go_wp2_with fail
  refine (pnew_no 0 1 _ (by omega)).mono ?_
  rintro e w' ⟨rfl, rfl⟩
  go_wp2_with fail
  refine (pnew_no 2 3 _ (by omega)).mono ?_
  rintro e w' ⟨rfl, rfl⟩
  go_wp2_with fail
  refine (pool_look_no 3 1 _ HP9.out (by omega)).mono ?_
  rintro e w' ⟨rfl, rfl⟩
  go_wp2_with fail
  refine (pool_look_ok 0 2 ⟨0, 0, none⟩ _ HP9.out rfl Z0_bts (by omega)).mono ?_
  rintro e wl ⟨m, B, c, rfl, ho, _, hp, hown⟩
  have hh := HP9.out.hiw
  have HKL := Lib.hid (HK9.out.trans' ho (fun q hq h => by omega))
  have HPL := Lib.hid hp
  have HOW := Lib.hid hown
  clear ho hp hown
  go_wp2_with fail
  refine (pawake_ok _).mono ?_
  rintro e wa ⟨rfl, hka⟩
  have HKA := Lib.hid (HKL.out.trans hka)
  have HPA := Lib.hid (HPL.out.kept hka)
  have HOA := Lib.hid (own_only HOW.out hka (fun _ _ f => f))
  clear hka
  go_wp2_with fail
  have hq : acq (maded fsC 0 m) 2 0 = (0, 3, maded fsC 0 m) := by unfold acq; rw [if_pos (by omega)]
  refine (acquires_ok p 3 2 _ lo hi (maded fsC 0 m) 0 0 3 _ HPA.out (by omega)).mono ?_
  rw [hq]
  rintro e wz ⟨rfl, ho, hp⟩
  have HKZ := Lib.hid (HKA.out.trans' ho (fun q hq h => by omega))
  have HOZ := Lib.hid (own_only HOA.out ho (fun q hq h => by omega))
  clear ho hp hq
  go_wp2_with fail
  have hp0 : pre (cont ⟨0, 0, none⟩) 2 = [0, 0] := pre_zero 2 (by omega)
  have ht := Txt.of_own HOZ.out
  rw [hp0] at ht
  refine (same_bytes B _ 2 c _ [0, 0] _ rfl (ht.kept ((Only.refl (fun _ => False) _).alloc _)) (txt00 _)).mono ?_
  rintro e w' ⟨rfl, rfl⟩
  clear ht hp0
  go_wp2_with fail
  go_returns
  exact ⟨rfl, HKZ.out.alloc _⟩
end Go.Proofs.Ytjfbanemjceimaa

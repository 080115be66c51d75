/- PoolActs: acted: Look. -/
import Derived.Test.YtjfbanemjceimaaAcX
namespace Go.Proofs.Ytjfbanemjceimaa
open Go.RowKit Go.Maps
set_option linter.unusedVariables false
set_option linter.unusedSimpArgs false
set_option linter.unnecessarySimpa false

section
variable {w W0 W3 W4 : World} {p q lb N Q T lo hi lo2 hi2 : Nat} {fs rs : List Fr}

theorem ActSt.over (h : ActSt w W3 p q lb N Q T lo hi lo2 hi2 fs rs) {S : Nat → Prop} (ho : Only S W3 W4) (h1 : ∀ k, S k → hi2 ≤ k) (h2 : ∀ (i m : Nat) (x : Fr) (cs : Array Value), fs[i]? = some x → x.mem = some (m, cs) → ¬ S m)
    (h3 : ∀ (i m : Nat) (x : Fr) (cs : Array Value), rs[i]? = some x → x.mem = some (m, cs) → ¬ S m) : ActSt w W4 p q lb N Q T lo hi lo2 hi2 fs rs := by
  have a1 := h.hl
  have a2 := h.l2
  have a3 := h.lo0
  have a4 := h.lo1
  exact { h with
    pool := h.pool.keep_ ho (fun k _ _ e => by have := h1 k e; omega) (fun i x m cs hx he => h2 i m x cs hx he)
    ref := h.ref.keep ho (fun k _ _ e => by have := h1 k e; omega) (fun i x m cs hx he => h3 i m x cs hx he)
    kept := h.kept.trans' ho (fun k hk e => by have := h1 k e; omega) }

set_option maxRecDepth 100000 in
set_option maxHeartbeats 4000000 in
theorem acted_5 (b c d : Int) (h : ActSt w W0 p q lb N Q T lo hi lo2 hi2 fs rs) (hT : T + 64 ≤ 900000) : Acted w W0 p q lb N Q T lo hi lo2 hi2 5 b c d := by
  unfold Acted
  have h1 := h.keep ((Only.refl (fun _ => False) W0).alloc (.cells #[.int .i64 5, .int .i64 b, .int .i64 c, .int .i64 d] 23))
  have H1 := Lib.hid h1
  have a1 := h.hl
  have a2 := h.l2
  have a4 := h.lo1
  have a6 := h.ab
  have a7 := h.ref.inlb
  have hab : ¬ (lo ≤ W0.heap.size ∧ W0.heap.size < hi) := by omega
  have hab2 : ¬ W0.heap.size = lb := by omega
  obtain ⟨q0, q1, q2, q3⟩ := box_cells W0 (.int .i64 5) (.int .i64 b) (.int .i64 c) (.int .i64 d)
  by_cases hr : b < 0 ∨ (N : Int) ≤ b ∨ d < 0 ∨ 152064 < d
  · have HA := Lib.hid (pool_look_no b d _ h1.pool hr)
    have HB := Lib.hid (rlook_no b d _ h1.ref hr)
    clear h h1 hr
    go_enter Try.func26, Try.ntmps26
    go_wp2_with fail
    generalize (W0.alloc (.cells #[.int .i64 5, .int .i64 b, .int .i64 c, .int .i64 d] 23)) = W1 at *
    refine HA.out.mono ?_
    rintro e w' ⟨rfl, rfl⟩
    go_wp2_with fail
    refine HB.out.mono ?_
    rintro e w' ⟨rfl, rfl⟩
    go_wp2_with fail
    refine (same_bytes none none 0 0 0 [] W1 rfl (Txt.nil _ _) (Txt.nil _ _)).mono ?_
    rintro e w' ⟨rfl, rfl⟩
    go_wp2_with fail
    refine (overb_ok none 0 0 W1.heap.size [] W1 (by omega) (World.ownsRow_nil _ _ _ _)).mono ?_
    rintro e w2 ⟨⟨v, rfl⟩, ho⟩
    have HO := Lib.hid ho
    clear ho
    go_wp2_with fail
    go_returns
    refine ⟨rfl, _, _, (H1.out.over HO.out (fun k hk => by cases hk.2) (fun i m x cs _ _ e => by cases e.2) (fun i m x cs _ _ e => by cases e.2)).mono (by omega) hT⟩
  · obtain ⟨n, rfl⟩ := Int.eq_ofNat_of_zero_le (show (0 : Int) ≤ b by omega)
    obtain ⟨k, rfl⟩ := Int.eq_ofNat_of_zero_le (show (0 : Int) ≤ d by omega)
    have bn : n < N := by omega
    have bk : k ≤ 152064 := by omega
    obtain ⟨x, hx⟩ : ∃ x, fs[n]? = some x := ⟨_, List.getElem?_eq_getElem (by have := h.pool.len; omega)⟩
    obtain ⟨y, hy, e1, e2, e3⟩ := h.al.get hx
    have HX := Lib.hid hx
    have HY := Lib.hid hy
    have HE3 := Lib.hid e3
    have HBT := Lib.hid (h.bts n x hx)
    have hsz : W0.heap.size < (W0.alloc (.cells #[.int .i64 5, .int .i64 n, .int .i64 c, .int .i64 k] 23)).heap.size := by simp
    clear h h1 hx hy e1 e2 e3 hr
    go_enter Try.func26, Try.ntmps26
    go_wp2_with fail
    generalize (W0.alloc (.cells #[.int .i64 5, .int .i64 n, .int .i64 c, .int .i64 k] 23)) = W1 at *
    refine (pool_look_ok2 n k x W1 H1.out.pool HX.out HBT.out bk).mono ?_
    rintro e w1 ⟨m, B, c1, base, rfl, ho1, hl1, hmb, hbase, hp1, hown1⟩
    replace q1 := only_cell ho1 q1 hab
    replace q3 := only_cell ho1 q3 hab
    have HO1 := Lib.hid ho1
    have HL1 := Lib.hid hl1
    have HP1 := Lib.hid hp1
    have HW1 := Lib.hid hown1
    clear ho1 hl1 hp1 hown1
    go_wp2_with fail
    have hby : Bts (cont y) := by rw [HE3.out]; exact HBT.out
    refine (rlook_ok n k y w1 (H1.out.ref1 HO1.out) HY.out hby bk).mono ?_
    rintro e w2 ⟨m', B2, c2, rfl, ho2, hl2, hlt2, hp2, hown2⟩
    rw [HE3.out] at hown2
    have hst := H1.out.turn HO1.out HP1.out (Der.maded HL1.out) ho2 hp2 (Der.maded hl2) (H1.out.al.maded n m m')
    have hhi := H1.out.ref.hiw
    have hown3 := own_only HW1.out ho2 (fun q hq e => by omega)
    have HT1 := Lib.hid (Txt.of_own hown3)
    have HT2 := Lib.hid (Txt.of_own hown2)
    have HW3 := Lib.hid hown3
    have HST := Lib.hid hst
    have HL2 := Lib.hid hl2
    clear ho2 hp2 hown2 hown3 hst hl2 hby
    go_wp2_with fail
    refine (same_bytes B B2 k c1 c2 _ w2 (pre_length _ _).symm HT1.out HT2.out).mono ?_
    rintro e w' ⟨rfl, rfl⟩
    go_wp2_with fail
    refine (overb_ok B k c1 base _ w2 bk HW3.out).mono ?_
    rintro e w3 ⟨⟨v, rfl⟩, ho⟩
    have HO := Lib.hid ho
    clear ho
    go_wp2_with fail
    go_returns
    have hmem : ∀ (gs : List Fr) (m2 : Nat) (z0 : Fr), gs[n]? = some z0 → ∀ (i m3 : Nat) (z : Fr) (cs : Array Value), (maded gs n m2)[i]? = some z → z.mem = some (m3, cs) → m3 = m2 ∨ gs[i]? = some z := fun gs m2 z0 hz0 i m3 z cs hz he => by
      unfold maded at hz
      rw [hz0] at hz
      rcases set_get hz0 hz with ⟨rfl, rfl⟩ | ⟨_, hz⟩
      · simp at he
        exact .inl he.1.symm
      · exact .inr hz
    refine ⟨rfl, _, _, (HST.out.over HO.out (fun j hj => by have := hj.1; omega) (fun i m2 z cs hz he e => ?_) (fun i m2 z cs hz he e => ?_)).mono (by omega) hT⟩
    · rcases hmem fs m x HX.out i m2 z cs hz he with rfl | hz
      · have := e.1; omega
      · have := (H1.out.pool.memBlk hz he).lt
        have := e.1
        omega
    · have hg := own_lt HW1.out e.2
      rcases hmem rs m' y HY.out i m2 z cs hz he with rfl | hz
      · rcases HL2.out y HY.out with ⟨_, h2⟩ | ⟨cs', h2⟩
        · omega
        · have := (H1.out.ref.mem n y _ cs' HY.out h2).1.lt
          have := e.1
          omega
      · have := (H1.out.ref.mem i z m2 cs hz he).1.lt
        have := e.1
        omega
end
end Go.Proofs.Ytjfbanemjceimaa

/- PoolOwn: the walk. -/
import Derived.Test.YtjfbanemjceimaaOwP
import Derived.Test.YtjfbanemjceimaaInts
import Derived.Test.YtjfbanemjceimaaPlO
namespace Go.Proofs.Ytjfbanemjceimaa
open Go.RowKit Go.Maps
set_option linter.unusedVariables false
set_option linter.unusedSimpArgs false
set_option linter.unnecessarySimpa false

theorem own_start {w w1 w2 : World} {p N : Nat} (hk : Kept w w1) (hk2 : Kept w1 w2) (hp : Pool w2 p N N 0 w1.heap.size w2.heap.size (List.replicate N ⟨0, 0, none⟩)) :
    OwnSt w (w2.alloc (.cells (madeCells #[.slice none 0 0] N) 35)) p N 0 w1.heap.size w2.heap.size w2.heap.size 0 1 (List.replicate N ⟨0, 0, none⟩) [] := by
  have hr : ∀ (i : Nat) (x : Fr), (List.replicate N (⟨0, 0, none⟩ : Fr))[i]? = some x → x = ⟨0, 0, none⟩ := by
    intro i x hx
    rw [List.getElem?_replicate] at hx
    split at hx
    · cases hx; rfl
    · cases hx
  exact
    { pool := hp.kept ((Only.refl _ _).alloc _)
      lo0 := hk.size
      lohi := hk2.size
      kept := (hk.trans hk2).alloc _
      wnt := ⟨Nat.le_refl _, ⟨_, Blk.new _ _ _, size_madeCells _ _, fun i g c h => by simp at h⟩, fun i g c h => by simp at h, fun i j g c d h => by simp at h⟩
      lenN := by simp
      owns := fun i x hx => by obtain rfl := hr i x hx; simp
      mems := fun i m x cs hx he => by obtain rfl := hr i x hx; cases he
      bts := fun i x hx => by obtain rfl := hr i x hx; exact Z0_bts
      same := fun i g x c _ h => by simp at h }

theorem maded_none {fs : List Fr} (n k : Nat) (a : Int) (hz : ∀ (i : Nat) (x : Fr), fs[i]? = some x → x.mem = none) : ∀ (i : Nat) (x : Fr), (taken fs k a)[i]? = some x → x.mem = none := by
  intro i x hx
  unfold taken at hx
  cases hk : fs[k]? with
  | none => rw [hk] at hx; exact hz i x hx
  | some y =>
    rw [hk] at hx
    rcases set_get hk hx with ⟨rfl, rfl⟩ | ⟨_, h1⟩
    · exact hz _ y hk
    · exact hz i x h1

theorem OwnSt.keep {w wr w2 : World} {p N T lo hi wb k : Nat} {a : Int} {fs : List Fr} {ws : List (Nat × Array Value)} (h : OwnSt w wr p N T lo hi wb k a fs ws) (ho : Kept wr w2) : OwnSt w w2 p N T lo hi wb k a fs ws :=
  h.turn (ho.mono (fun _ _ f => f.elim)) (h.pool.kept ho) rfl (fun i x' hx' => ⟨x', hx', rfl, fun m cs hm => .inl hm⟩) h.owns

theorem pool_mem_own {p N Q T lo hi : Nat} {fs : List Fr} (n : Nat) (o : Int) (x : Fr) (w : World) (h : Pool w p N Q T lo hi fs) (hx : fs[n]? = some x) (h1 : x.own = o) (h0 : o ≠ 0) :
    Calls Try.prog 10 #[.pointer (some ⟨p, 0, none⟩), .int .i64 n, .int .i64 o] w fun e w' => ∃ m, e = .returned (.tuple #[.slice (some ⟨m, 0, none⟩) 152064 152064, .int .i64 0]) ∧ Only (fun k => lo ≤ k ∧ k < hi) w w' ∧ Lies w fs n m ∧ m < w'.heap.size ∧
      Pool w' p N Q T lo hi (maded fs n m) := by
  subst h1
  exact pool_mem_ok n x w h hx h0

theorem why_19 {fs : List Fr} {n : Nat} {x : Fr} {o : Int} (hx : fs[n]? = some x) (h0 : x.own ≠ 0) (h1 : x.own ≠ o) : why fs n o = 19 := by
  have e : at0 fs Fr.own (n : Int) = x.own := by unfold at0; rw [if_pos (by omega)]; simp [hx]
  unfold why
  rw [e, if_neg h0, if_neg h1]

theorem why_18 {fs : List Fr} {n : Nat} {x : Fr} {o : Int} (hx : fs[n]? = some x) (h0 : x.own = 0) : why fs n o = 18 := by
  have e : at0 fs Fr.own (n : Int) = x.own := by unfold at0; rw [if_pos (by omega)]; simp [hx]
  unfold why
  rw [e, if_pos h0]

theorem Pool.memBlk {w : World} {p N Q T lo hi : Nat} {fs : List Fr} (h : Pool w p N Q T lo hi fs) {n m : Nat} {x : Fr} {cs : Array Value} (hx : fs[n]? = some x) (hm : x.mem = some (m, cs)) : Blk w m 5 cs := by
  obtain ⟨fb, ib, cap, mb, fbs, l, f, h⟩ := h
  exact (h.mem n x m cs hx hm).1

theorem Txt.of_same {w : World} {g : Nat} {c cs : Array Value} (hb : Blk w g 5 c) (h : Bts cs) (hs : ∀ j, j < 1000 → cs[j]? = c[j]?) : Txt w (some ⟨g, 0, none⟩) (pre cs 1000) := fun _ => ⟨g, 0, rfl, fun i hi => by
  rw [pre_length] at hi
  rw [pre_getD cs 1000 i hi, hb.cell, Nat.zero_add, ← hs i hi]
  exact h.at_ (by omega)⟩

theorem taken_get {fs : List Fr} {n : Nat} {a : Int} {x : Fr} (hx : fs[n]? = some x) : (taken fs n a)[n]? = some ⟨a, 1, x.mem⟩ := by
  unfold taken
  rw [hx]
  exact List.getElem?_set_self (List.getElem?_eq_some_iff.1 hx).1

set_option maxRecDepth 100000 in
set_option maxHeartbeats 8000000 in
theorem own_calls (x0 : Int) (A B : Option Addr) (n m cA cB : Nat) (xs ys : List Int) (w : World) (b1 : -9223372036854775808 ≤ x0) (b2 : x0 ≤ 9223372036854775807) (hn : xs.length = n) (hm : ys.length = m) (hnm : n ≤ 9223372036854775807) (hmm : m ≤ 9223372036854775807)
    (hA : Ints w A xs) (hB : Ints w B ys) (hxb : ∀ a ∈ xs, (-9223372036854775808 : Int) ≤ a ∧ a ≤ 9223372036854775807) (hyb : ∀ a ∈ ys, (-9223372036854775808 : Int) ≤ a ∧ a ≤ 9223372036854775807) :
    Calls Try.prog 4 #[.int .i64 x0, .slice A n cA, .slice B m cB] w fun e w' => e = .returned (.bool true) ∧ Kept w w' := by
  obtain ⟨F, hF, bF⟩ := pick_num x0 6 (by omega)
  have HF := Lib.hid hF
  have HA := Lib.hid hA
  have HB := Lib.hid hB
  have HX := Lib.hid hxb
  have HY := Lib.hid hyb
  have HN := Lib.hid hn
  have HM := Lib.hid hm
  have hmk := make_want
  clear hF hA hB hxb hyb hn hm
  go_enter Try.func4, Try.ntmps4
  go_wp2_with fail
  refine (pknown_ok _).mono ?_
  rintro e w1 ⟨rfl, hk1⟩
  have HK1 := Lib.hid hk1
  clear hk1
  go_wp2_with fail
  refine (pick_nat x0 6 F _ (by omega) (by omega) b1 b2 HF.out).mono ?_
  rintro e w2 ⟨rfl, rfl⟩
  by_cases h20 : 20 < n
  · go_wp2_with fail
    go_returns
    exact ⟨rfl, HK1.out⟩
  go_wp2_with fail
  obtain ⟨N, hN⟩ : ∃ N : Nat, 1 + (F : Int) = N := ⟨F + 1, by omega⟩
  rw [hN]
  have bN : 1 ≤ N := by omega
  have bN2 : N ≤ 6 := by omega
  clear hN
  refine (pnew_ok N N w1 (by omega) (by omega) (by omega) (by omega)).mono ?_
  rintro e w2 ⟨p, fb, ib, cap, mb, fbs, l, rfl, hk2, hpl⟩
  have hst := own_start HK1.out hk2 ⟨fb, ib, cap, mb, fbs, l, _, hpl⟩
  obtain ⟨lo, hlo⟩ : ∃ lo, w1.heap.size = lo := ⟨_, rfl⟩
  obtain ⟨hi, hhi⟩ : ∃ hi, w2.heap.size = hi := ⟨_, rfl⟩
  have hms : (Instr.makeSlice 46 (.int .i64 (N : Int)) (.int .i64 (N : Int))).run Try.prog w2 = .ok (.slice (some ⟨hi, 0, none⟩) N N) (w2.alloc (.cells (madeCells #[.slice none 0 0] N) 35)) := by
    obtain ⟨i0, hi', hz0, hz1, hz2⟩ := info_parts (show (Try.prog.info? 35).map (fun i => (i.zero, i.size, i.bytes)) = some (some (.slice none 0 0), 1, 24) by kernel_rfl)
    have h := run_make_rowN (P := Try.prog) 46 35 i0 _ Try.underlying46 hi' hz0 .i64 .i64 N N (Nat.le_refl _) (by rw [hz2]; omega) (by omega) w2
    rw [hz1, Nat.mul_one, hhi] at h
    exact h
  rw [hlo, hhi] at hst
  have HST := Lib.hid hst
  clear hst hpl hk2 hlo hhi
  go_wp2_with fail
  clear hms
  generalize (w2.alloc (.cells (madeCells #[.slice none 0 0] N) 35)) = W0 at *
  go_loopw [11] (fun v wr => ∃ (k : Nat) (fs : List Fr) (ws : List (Nat × Array Value)), v = .int .i64 k ∧ k ≤ N ∧ OwnSt w wr p N k lo hi hi k 1 fs ws ∧ ws.length = k ∧ ∀ (i : Nat) (x : Fr), fs[i]? = some x → x.mem = none) (fun v _ => N - (intOf v).toNat)
  case atStart =>
    refine ⟨0, _, [], rfl, by omega, HST.out, rfl, fun i x hx => ?_⟩
    rw [List.getElem?_replicate] at hx
    split at hx
    · cases hx; rfl
    · cases hx
  case round =>
    obtain ⟨k, fs, ws, rfl, hk, hst, hwl, hz⟩ := hrel
    have HS := Lib.hid hst
    have HL := Lib.hid hwl
    have HZ := Lib.hid hz
    by_cases hkN : k < N
    · have hq := acq_owns (N := N) (by omega) (by omega) hst.lenN hkN hst.owns
      clear hst hwl hz
      go_wp2_with fail
      refine (acquires_ok p N N k lo hi fs 1 k 0 _ HS.out.pool (by omega)).mono ?_
      rw [hq]
      simp only [beq_self_eq_true, Bool.and_self]
      rintro e w3 ⟨rfl, ho, hp⟩
      have hst3 := HS.out.acquired hkN (by omega) ho hp
      have HS3 := Lib.hid hst3
      obtain ⟨cs, a1, a2, a3⟩ := hst3.wnt.tab
      obtain ⟨v0, f0⟩ : ∃ v, w3.cell? ⟨hi, k, none⟩ = some v := ⟨_, (a1.cell k).trans (Array.getElem?_eq_getElem (by omega))⟩
      have y0 := a1.frozen k
      have hlt3 := a1.lt
      clear hst3 a1 a2 a3 ho hp hq
      go_wp2_with fail
      go_roundw
      case rel =>
        refine ⟨k + 1, _, ws ++ [(w3.heap.size, Z1)], by go_num, by omega, ?_, by simp [HL.out], maded_none 0 k 1 HZ.out⟩
        have h := HS3.out.row_ (by rw [HL.out]; exact hkN) (maded_none 0 k 1 HZ.out)
        rw [HL.out] at h
        exact h
      case measure => simp [intOf]; omega
    · obtain rfl : N = k := by omega
      clear hst hwl hz
      go_wp2_with fail
      obtain ⟨wo, rfl⟩ : ∃ wo : World, wo = wr := ⟨_, rfl⟩
      go_loopw [12] (fun v wr => ∃ (k : Nat) (fs : List Fr) (ws : List (Nat × Array Value)), v = .int .i64 k ∧ k ≤ n ∧ OwnSt w wr p N N lo hi hi N 1 fs ws ∧ ws.length = N) (fun v _ => n - (intOf v).toNat)
      case atStart => exact ⟨0, _, ws, rfl, by omega, HS.out, HL.out⟩
      case round =>
        clear HS HL HZ
        obtain ⟨k, fs, ws, rfl, hk, hst, hwl⟩ := hrel
        have HS := Lib.hid hst
        have HL := Lib.hid hwl
        by_cases hlt : k < n ∧ k < m
        · obtain ⟨hkn, hkm⟩ := hlt
          obtain ⟨X, hX⟩ : ∃ X, xs.getD k 0 = X := ⟨_, rfl⟩
          obtain ⟨Y, hY⟩ : ∃ Y, ys.getD k 0 = Y := ⟨_, rfl⟩
          have bX : -9223372036854775808 ≤ X ∧ X ≤ 9223372036854775807 := by
            have hl := HN.out
            refine HX.out X ?_
            rw [← hX, List.getD_eq_getElem?_getD, List.getElem?_eq_getElem (by omega), Option.getD_some]
            exact List.getElem_mem _
          have bY : -9223372036854775808 ≤ Y ∧ Y ≤ 9223372036854775807 := by
            have hl := HM.out
            refine HY.out Y ?_
            rw [← hY, List.getD_eq_getElem?_getD, List.getElem?_eq_getElem (by omega), Option.getD_some]
            exact List.getElem_mem _
          obtain ⟨g1, o1, hA1, hg1, hc1⟩ := HA.out (by rintro rfl; have := HN.out; simp at this; omega)
          obtain ⟨g2, o2, hB1, hg2, hc2⟩ := HB.out (by rintro rfl; have := HM.out; simp at this; omega)
          subst hA1 hB1
          have c1 := hc1 k (by have := HN.out; omega)
          have c2 := hc2 k (by have := HM.out; omega)
          rw [hX] at c1
          rw [hY] at c2
          have C2 := Lib.hid c2
          obtain ⟨f, hf, bf⟩ := pick_num X N (by omega)
          obtain ⟨t, ht, bt⟩ := pick_num Y 1000 (by omega)
          have Hf := Lib.hid hf
          have Ht := Lib.hid ht
          obtain ⟨bX1, bX2⟩ := bX
          obtain ⟨bY1, bY2⟩ := bY
          have d1 := kept_cell hst.kept c1
          have d2 := kept_cell hst.kept c2
          have z1 : (0 : Int) ≤ (k : Int) := by omega
          have z2 : (k : Int) < (n : Int) := by omega
          have z3 : (k : Int) < (m : Int) := by omega
          clear hst hwl hX hY hf ht hc1 hc2 c1 c2
          go_wp2_with fail
          go_quiet ((go_at_call 19; exact quiet_left (pick_any _ _ _ (by omega) (by omega) (by assumption) (by assumption))))
          rw [Hf.out, Ht.out]
          have hst1 := HS.out.keep ((Only.refl (fun _ => False) wr).drewN nq)
          generalize (wr.drewN nq) = W1 at *
          obtain ⟨x, hx⟩ : ∃ x, fs[f]? = some x := ⟨_, List.getElem?_eq_getElem (by have := hst1.lenN; omega)⟩
          have hxo : x.own = 1 := by rw [hst1.owns f x hx, if_pos (by omega)]
          have HS1 := Lib.hid hst1
          have HXX := Lib.hid hx
          have HXO := Lib.hid hxo
          clear hst1 hx hxo d1 d2
          go_wp2_with fail
          refine (pool_mem_own f 1 x W1 HS1.out.pool HXX.out HXO.out (by omega)).mono ?_
          rintro e W2 ⟨mm, rfl, ho, hli, hmlt, hp⟩
          have hx2 := maded_get (m := mm) HXX.out
          have HS2 := Lib.hid (HS1.out.maded ho hli hp)
          have HW := Lib.hid (why_19 (o := 2) hx2 (by show x.own ≠ 0; rw [HXO.out]; omega) (by show x.own ≠ 2; rw [HXO.out]; omega))
          have HX2 := Lib.hid hx2
          clear ho hli hp hx2
          go_wp2_with fail
          refine (pool_mem_no f 2 W2 HS2.out.pool (by rw [HW.out]; omega)).mono ?_
          rw [HW.out]
          rintro e w' ⟨rfl, rfl⟩
          have hbm := HS2.out.pool.memBlk HX2.out rfl
          obtain ⟨gw, cw, hgw⟩ : ∃ gw cw, ws[f]? = some (gw, cw) := ⟨_, _, List.getElem?_eq_getElem (by have := HL.out; omega)⟩
          obtain ⟨r1, r2, r3⟩ := HS2.out.wnt.row f gw cw hgw
          obtain ⟨tb, t1, t2, t3⟩ := HS2.out.wnt.tab
          have t4 := t3 f gw cw hgw
          obtain ⟨v0, f0⟩ : ∃ v, W2.cell? ⟨mm, t, none⟩ = some v := ⟨_, (hbm.cell t).trans (((HS2.out.bts f _ HX2.out).at_ (by omega)))⟩
          have y0 := hbm.frozen t
          have d2 := kept_cell HS2.out.kept C2.out
          have hmlt := hbm.lt
          have HBM := Lib.hid hbm
          have HGW := Lib.hid hgw
          have HR1 := Lib.hid r1
          have HT1 := Lib.hid t1
          have HT4 := Lib.hid t4
          clear hbm hgw r1 t1 t3 t4 t2
          go_wp2_with fail
          obtain ⟨q1, q2⟩ := HS2.out.mems f mm _ _ HX2.out rfl
          have n1 : gw ≠ mm := q2 f gw cw HGW.out
          have n2 : hi ≠ mm := HT1.out.ne_ HBM.out (by decide)
          have n3 : g2 ≠ mm := by omega
          obtain ⟨V, hV⟩ : ∃ V, wrap64 (wrap64 (Y + ↑k) + 1) % 256 = V := ⟨_, rfl⟩
          rw [hV]
          have O3 : Only (fun q => q = mm) W2 (W2.setCell ⟨mm, t, none⟩ (.int .u8 V)) := (Only.refl (fun q => q = mm) W2).setOf (o := t) rfl _
          have B3 := HBM.out.set_ t (.int .u8 V)
          have G3 := O3.blk HR1.out n1
          have T3 := O3.blk HT1.out n2
          have d3 := only_cell O3 d2 n3
          generalize (W2.setCell ⟨mm, t, none⟩ (.int .u8 V)) = W3 at *
          obtain ⟨v1, f1⟩ : ∃ v, W3.cell? ⟨gw, t, none⟩ = some v := ⟨_, (G3.cell t).trans (Array.getElem?_eq_getElem (by omega))⟩
          have y1 := G3.frozen t
          have e1 := (T3.cell f).trans HT4.out
          have HB3 := Lib.hid B3
          have HG3 := Lib.hid G3
          have HO3 := Lib.hid O3
          have HV := Lib.hid hV
          have z4 : (0 : Int) ≤ (f : Int) := by omega
          have z5 : (f : Int) < (N : Int) := by omega
          have z6 : (0 : Int) ≤ (t : Int) := by omega
          have z7 : (t : Int) < 1000 := by omega
          clear B3 G3 T3 O3 hV d2 f0 y0 q2
          go_region
          go_wp2_with fail
          go_roundw
          case rel =>
            rw [HV.out]
            exact ⟨k + 1, _, _, by go_num, by omega, HS2.out.wrote HX2.out rfl HGW.out (by omega) (((HO3.out.mono (S' := fun q => q = mm ∨ q = gw) (fun q _ e => .inl e)).setOf (o := t) (.inr rfl) _).drew) ((HB3.out.far' n1.symm _).drew) ((HG3.out.set_ t _).drew), by simp [HL.out]⟩
          case measure => simp [intOf]; omega
        · have hor : (¬ k < n) ∨ (k < n ∧ ¬ k < m) := by omega
          clear hst hwl hlt
          rcases hor with h1 | ⟨h1, h2⟩
          all_goals
            go_wp2_with fail
            have hmn := many_owns HS.out (by omega)
            refine (reclaims_ok 1 N wr HS.out.pool (by omega)).mono ?_
            rw [hmn]
            simp only [beq_self_eq_true]
            rintro e W1 ⟨rfl, ho, hp⟩
            have HS1 := Lib.hid (HS.out.reclaimed (by omega) ho hp 2)
            clear ho hp hmn
            go_wp2_with fail
            obtain ⟨wo2, rfl⟩ : ∃ wo : World, wo = W1 := ⟨_, rfl⟩
            go_loopw [19] (fun v wr => ∃ (k : Nat) (fs : List Fr), v = .int .i64 k ∧ k ≤ N ∧ OwnSt w wr p N (N + 64 + k) lo hi hi k 2 fs ws) (fun v _ => N - (intOf v).toNat)
            case atStart => exact ⟨0, _, rfl, by omega, HS1.out⟩
            case round =>
              clear HS HS1
              obtain ⟨j, fs, rfl, hj, hst⟩ := hrel
              have HS := Lib.hid hst
              by_cases hjN : j < N
              · obtain ⟨x, hx⟩ : ∃ x, fs[j]? = some x := ⟨_, List.getElem?_eq_getElem (by have := hst.lenN; omega)⟩
                have hxo : x.own = 0 := by rw [hst.owns j x hx, if_neg (by omega)]
                have HX1 := Lib.hid hx
                have HW := Lib.hid (why_18 (o := 1) hx hxo)
                clear hst hx hxo
                go_wp2_with fail
                refine (pool_mem_no j 1 wr HS.out.pool (by rw [HW.out]; omega)).mono ?_
                rw [HW.out]
                rintro e w' ⟨rfl, rfl⟩
                go_wp2_with fail
                refine (pool_look_ok j 1000 x wr HS.out.pool HX1.out (HS.out.bts j x HX1.out) (by omega)).mono ?_
                rintro e W1 ⟨m1, B1, c1, rfl, ho, hli, hp, hown⟩
                have hx2 := maded_get (m := m1) HX1.out
                have hst2 := HS.out.maded ho hli hp
                obtain ⟨gw, cw, hgw⟩ : ∃ gw cw, ws[j]? = some (gw, cw) := ⟨_, _, List.getElem?_eq_getElem (by have := HL.out; omega)⟩
                obtain ⟨tb, t1, t2, t3⟩ := hst2.wnt.tab
                obtain ⟨r1, r2, r3⟩ := hst2.wnt.row j gw cw hgw
                have hsame : ∀ i, i < 1000 → (cont x)[i]? = cw[i]? := fun i hi => hst2.same j gw _ cw hx2 hgw i hi
                have hbx : Bts (cont x) := HS.out.bts j x HX1.out
                have e1 := (t1.cell j).trans (t3 j gw cw hgw)
                have HT2 := Lib.hid (Txt.of_same r1 hbx hsame)
                have HT1 := Lib.hid (Txt.of_own hown)
                have hq := acq_owns (N := N) (by omega) (by omega) hst2.lenN hjN hst2.owns
                have HS2 := Lib.hid hst2
                have HX2 := Lib.hid hx2
                have HGW := Lib.hid hgw
                have HSM := Lib.hid hsame
                have HBX := Lib.hid hbx
                have z4 : (0 : Int) ≤ (j : Int) := by omega
                have z5 : (j : Int) < (N : Int) := by omega
                clear ho hli hp hown hx2 hst2 hgw t1 t2 t3 r1 r2 r3 hsame hbx
                go_wp2_with fail
                refine (same_bytes B1 (some ⟨gw, 0, none⟩) 1000 c1 1000 _ W1 (pre_length _ _).symm HT1.out HT2.out).mono ?_
                rintro e w' ⟨rfl, rfl⟩
                go_wp2_with fail
                refine (acquires_ok p N N _ lo hi _ 2 j 0 _ HS2.out.pool (by omega)).mono ?_
                rw [hq]
                simp only [beq_self_eq_true, Bool.and_self]
                rintro e W3 ⟨rfl, ho, hp⟩
                have hx3 := taken_get (a := 2) HX2.out
                have HS3 := Lib.hid (HS2.out.acquired hjN (by omega) ho hp)
                have HX3 := Lib.hid hx3
                clear ho hp hx3 hq e1
                go_wp2_with fail
                refine (pool_mem_own j 2 _ W3 HS3.out.pool HX3.out rfl (by omega)).mono ?_
                rintro e W4 ⟨mm, rfl, ho, hli, hmlt, hp⟩
                have hx4 := maded_get (m := mm) HX3.out
                have hst4 := HS3.out.maded ho hli hp
                obtain ⟨tb4, t1, t2, t3⟩ := hst4.wnt.tab
                obtain ⟨r1, r2, r3⟩ := hst4.wnt.row j gw cw HGW.out
                have e1 := (t1.cell j).trans (t3 j gw cw HGW.out)
                have hbm := hst4.pool.memBlk hx4 rfl
                have HT3 := Lib.hid (Txt.of_blk (n := 1000) hbm HBX.out (by omega))
                have HT4 := Lib.hid (Txt.of_same r1 HBX.out HSM.out)
                have HS4 := Lib.hid hst4
                clear ho hli hp hx4 hst4 t1 t2 t3 r1 r2 r3 hbm
                go_wp2_with fail
                go_quiet ((go_at_call 23; exact quiet_left (same_bytes (some ⟨mm, 0, none⟩) (some ⟨gw, 0, none⟩) 1000 152064 1000 _ _ (pre_length _ _).symm (HT3.out.kept ((Only.refl (fun _ => False) W4).drewN _)) (HT4.out.kept ((Only.refl (fun _ => False) W4).drewN _)))))
                go_wp2_with fail
                go_roundw
                case rel => exact ⟨j + 1, _, by go_num, by omega, HS4.out.keep ((Only.refl (fun _ => False) W4).drewN _)⟩
                case measure => simp [intOf]; omega
              · clear hst
                go_wp2_with fail
                go_returns
                exact ⟨rfl, HS.out.kept⟩
end Go.Proofs.Ytjfbanemjceimaa

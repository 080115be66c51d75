/- PoolCounts: the walk. -/
import Derived.Deep.Cut
import Derived.Deep.CutRange
import Derived.Deep.CutBlock
import Derived.Deep.DeepCutAuto
import Derived.Deep.Light
import Derived.Test.YtjfbanemjceimaaActs
import Derived.Test.YtjfbanemjceimaaCtP
namespace Go.Proofs.Ytjfbanemjceimaa
open Go.RowKit Go.Maps
set_option linter.unusedVariables false
set_option linter.unusedSimpArgs false
set_option linter.unnecessarySimpa false

theorem cnt_start {w w1 w2 : World} {p N Q : Nat} (hk : Kept w w1) (hk2 : Kept w1 w2) (hp : Pool w2 p N Q 0 w1.heap.size w2.heap.size (List.replicate N ⟨0, 0, none⟩)) :
    CntSt w (w2.alloc (.cells (madeCells #[.int .i64 0] N) 3)) p N Q 0 w1.heap.size w2.heap.size w2.heap.size (List.replicate N ⟨0, 0, none⟩) where
  pool := hp.kept ((Only.refl _ _).alloc _)
  lo0 := hk.size
  lohi := hk2.size
  hib := Nat.le_refl _
  kept := (hk.trans hk2).alloc _
  hand := by
    have : hands (List.replicate N ⟨0, 0, none⟩) = madeCells #[.int .i64 0] N := by
      apply Array.ext_getElem?
      intro i
      rw [hands_get]
      by_cases h : i < N
      · rw [madeCells_one _ _ i h]; simp [h]
      · rw [Array.getElem?_eq_none (by rw [size_madeCells]; omega)]; simp [h]
    rw [this]
    exact Blk.new _ _ _
  tame := tame_new N Q

set_option maxRecDepth 100000 in
set_option maxHeartbeats 8000000 in
theorem counts_calls (x0 y0 : Int) (A : Option Addr) (acts : List Ac) (n cA : Nat) (w : World) (b1 : In64 x0) (b2 : In64 y0) (hn : acts.length = n) (hnm : n ≤ 9223372036854775807) (hA : Acts w A acts) (hin : ∀ a ∈ acts, a.In) :
    Calls Try.prog 6 #[.int .i64 x0, .int .i64 y0, .slice A n cA] w fun e w' => e = .returned (.bool true) ∧ Kept w w' := by
  obtain ⟨b11, b12⟩ := b1
  obtain ⟨b21, b22⟩ := b2
  obtain ⟨F, hF, bF⟩ := pick_num x0 10 (by omega)
  have HF := Lib.hid hF
  have HA := Lib.hid hA
  have HI := Lib.hid hin
  have HN := Lib.hid hn
  clear hF hA hin hn
  go_enter Try.func6, Try.ntmps6
  go_wp2_with fail
  refine (pknown_ok _).mono ?_
  rintro e w1 ⟨rfl, hk1⟩
  have HK1 := Lib.hid hk1
  clear hk1
  go_wp2_with fail
  refine (pick_nat x0 10 F _ (by omega) (by omega) b11 b12 HF.out).mono ?_
  rintro e w2 ⟨rfl, rfl⟩
  go_wp2_with fail
  obtain ⟨N, hN⟩ : ∃ N : Nat, 1 + (F : Int) = N := ⟨F + 1, by omega⟩
  rw [hN]
  have bN : 1 ≤ N := by omega
  have bN2 : N ≤ 10 := by omega
  clear hN
  obtain ⟨G, hG, bG⟩ := pick_num y0 N (by omega)
  have HG := Lib.hid hG
  clear hG
  refine (pick_nat y0 N G _ (by omega) (by omega) b21 b22 HG.out).mono ?_
  rintro e w2 ⟨rfl, rfl⟩
  by_cases h80 : 80 < n
  · go_wp2_with fail
    go_returns
    exact ⟨rfl, HK1.out⟩
  go_wp2_with fail
  obtain ⟨Q, hQ⟩ : ∃ Q : Nat, 1 + (G : Int) = Q := ⟨G + 1, by omega⟩
  rw [hQ]
  have bQ : 1 ≤ Q := by omega
  have bQ2 : Q ≤ N := by omega
  clear hQ
  refine (pnew_ok N Q w1 (by omega) (by omega) (by omega) (by omega)).mono ?_
  rintro e w2 ⟨p, fb, ib, cap, mb, fbs, l, rfl, hk2, hpl⟩
  have hst := cnt_start HK1.out hk2 ⟨fb, ib, cap, mb, fbs, l, _, hpl⟩
  obtain ⟨lo, hlo⟩ : ∃ lo, w1.heap.size = lo := ⟨_, rfl⟩
  obtain ⟨hi, hhi⟩ : ∃ hi, w2.heap.size = hi := ⟨_, rfl⟩
  have hms : (Instr.makeSlice 26 (.int .i64 (N : Int)) (.int .i64 (N : Int))).run Try.prog w2 = .ok (.slice (some ⟨hi, 0, none⟩) N N) (w2.alloc (.cells (madeCells #[.int .i64 0] N) 3)) := by
    obtain ⟨i0, hi', hz0, hz1, hz2⟩ := info_parts (show (Try.prog.info? 3).map (fun i => (i.zero, i.size, i.bytes)) = some (some (.int .i64 0), 1, 8) by kernel_rfl)
    have h := run_make_rowN (P := Try.prog) 26 3 i0 _ Try.underlying26 hi' hz0 .i64 .i64 N N (Nat.le_refl _) (by rw [hz2]; omega) (by omega) w2
    rw [hz1, Nat.mul_one, hhi] at h
    exact h
  rw [hlo, hhi] at hst
  have HST := Lib.hid hst
  clear hst hpl hk2 hlo hhi
  go_wp2_with fail
  clear hms
  generalize (w2.alloc (.cells (madeCells #[.int .i64 0] N) 3)) = W0 at *
  go_loopw [11] (fun v wr => ∃ (k : Nat) (fs : List Fr), v = .int .i64 k ∧ k ≤ n ∧ CntSt w wr p N Q (64 * k) lo hi hi fs) (fun v _ => n - (intOf v).toNat)
  case atStart => exact ⟨0, _, rfl, by omega, HST.out⟩
  case round =>
    clear HST
    obtain ⟨k, fs, rfl, hk, hst⟩ := hrel
    have HS := Lib.hid hst
    by_cases hkn : k < n
    · obtain ⟨a, ha⟩ : ∃ a, acts[k]? = some a := ⟨_, List.getElem?_eq_getElem (by have := HN.out; omega)⟩
      obtain ⟨g1, o1, rfl, hg1, hc1⟩ := HA.out (by rintro rfl; simp at ha)
      obtain ⟨a0, a1, a2, a3⟩ := hc1 k a ha
      obtain ⟨hi0, hi1, hi2, hi3⟩ := HI.out a (List.mem_iff_getElem?.2 ⟨k, ha⟩)
      have d0 := kept_cell hst.kept a0
      have d1 := kept_cell hst.kept a1
      have d2 := kept_cell hst.kept a2
      obtain ⟨ak, af, ao, an⟩ := a
      simp only [] at d0 d1 d2 hi0 hi1 hi2 hi3
      obtain ⟨i01, i02⟩ := hi0
      obtain ⟨i11, i12⟩ := hi1
      obtain ⟨i21, i22⟩ := hi2
      obtain ⟨f, hf, bf⟩ := pick_num af N (by omega)
      obtain ⟨o, ho, bo⟩ := pick_num ao 4 (by omega)
      obtain ⟨P, hP, bP⟩ := pick_num ak 4 (by omega)
      have Hf := Lib.hid hf
      have Ho := Lib.hid ho
      have HP := Lib.hid hP
      have z1 : (0 : Int) ≤ (k : Int) := by omega
      have z2 : (k : Int) < (n : Int) := by omega
      clear hst hc1 a0 a1 a2 a3 hf ho hP ha hi3
      go_wp2_with fail
      go_quiet ((go_at_call 19; exact quiet_left (pick_any _ _ _ (by omega) (by omega) (by assumption) (by assumption))))
      rw [Hf.out, Ho.out]
      obtain ⟨O, hO⟩ : ∃ O : Int, 1 + (o : Int) = O := ⟨_, rfl⟩
      rw [hO]
      have bO1 : 1 ≤ O := by omega
      have bO2 : O ≤ 4 := by omega
      have hst1 := HS.out.keep ((Only.refl (fun _ => False) wr).drewN nq)
      replace d0 := kept_cell ((Only.refl (fun _ => False) wr).drewN nq) d0
      generalize (wr.drewN nq) = W1 at *
      have HS1 := Lib.hid hst1
      clear hst1 hO d1 d2
      go_wp2_with fail
      refine (pick_nat ak 4 P _ (by omega) (by omega) i01 i02 HP.out).mono ?_
      rintro e w' ⟨rfl, rfl⟩
      have bT : 64 * k + 64 ≤ 900000 := by omega
      go_upto_block 2 with (fail)
      go_cut [14, 15, 16] (fun _ _ _ wx => ∃ fs', CntSt w wx p N Q (64 * k + 64) lo hi hi fs')
      case first =>
        have hlen := HS1.out.pool.len
        have hok := HS1.out.pool.ok
        have HOK := Lib.hid hok
        clear hok d0
        obtain rfl | rfl | rfl | rfl : P = 0 ∨ P = 1 ∨ P = 2 ∨ P = 3 := by omega
        · rcases acq_cases fs Q O (by omega) (by omega) with ⟨e, he, hq⟩ | ⟨m, x, hx, hx0, hcn, hq⟩
          · have heb : (e == 0) = false := by rw [beq_eq_false_iff_ne]; exact he
            go_wp2_with fail
            refine (pool_acq p N Q _ lo hi fs O W1 HS1.out.pool (by omega)).mono ?_
            rw [hq]
            dsimp only
            rintro e2 w3 ⟨rfl, ho, hp⟩
            have HP3 := Lib.hid ((HS1.out.same ho hp).mono (T' := 64 * k + 64) (by omega) bT)
            clear ho hp hq
            go_wp2_with fail
            go_meet
            case rel => exact ⟨fs, HP3.out⟩
          · have hm : m < N := by have := (List.getElem?_eq_some_iff.1 hx).1; omega
            have hx1 : x.hand = 0 := (HOK.out m x hx).2.2.2.2.1 hx0
            have HX := Lib.hid hx
            clear hx
            go_wp2_with fail
            refine (pool_acq p N Q _ lo hi fs O W1 HS1.out.pool (by omega)).mono ?_
            rw [hq]
            dsimp only
            rintro e2 w3 ⟨rfl, ho, hp⟩
            have hb := HS1.out.hand2 ho
            have c := (hb.cell m).trans (hands_at HX.out)
            rw [hx1] at c
            have y0 := hb.frozen m
            have hlt := hb.lt
            have z3 : (0 : Int) ≤ (m : Int) := by omega
            have z4 : (m : Int) < (N : Int) := by omega
            have HP3 := Lib.hid ((HS1.out.turn ho hp (HS1.out.tame.set_ HX.out (by exact bO2) (.inr (.inr hcn))) (hands_set fs m _) (fun i m' x' cs hx' hm' => hp.memNe hb i m' x' cs hx' hm')).mono (T' := 64 * k + 64) (by omega) bT)
            clear ho hp hq hb
            go_wp2_with fail
            go_meet
            case rel => exact ⟨_, HP3.out⟩
        · rcases retained_cases fs f O with ⟨hw, hq⟩ | ⟨hw, x, hx, hxo, hx0, hq⟩
          · obtain ⟨e, he⟩ : ∃ e, why fs f O = e := ⟨_, rfl⟩
            rw [he] at hw
            have heb : (e == 0) = false := by rw [beq_eq_false_iff_ne]; exact hw
            go_wp2_with fail
            refine (pool_retain f O W1 HS1.out.pool (by omega)).mono ?_
            rw [hq, he]
            rintro e2 w3 ⟨rfl, ho, hp⟩
            have HP3 := Lib.hid ((HS1.out.same ho hp).mono (T' := 64 * k + 64) (by omega) bT)
            clear ho hp hq he
            go_wp2_with fail
            go_meet
            case rel => exact ⟨fs, HP3.out⟩
          · obtain ⟨_, _, q1, q2, _⟩ := HOK.out f x hx
            have HX := Lib.hid hx
            have HXO := Lib.hid hxo
            clear hx hxo hx0
            go_wp2_with fail
            refine (pool_retain f O W1 HS1.out.pool (by omega)).mono ?_
            rw [hq, hw]
            rintro e2 w3 ⟨rfl, ho, hp⟩
            have hb := HS1.out.hand2 ho
            have c := (hb.cell f).trans (hands_at HX.out)
            have y0 := hb.frozen f
            have hlt := hb.lt
            have z3 : (0 : Int) ≤ (f : Int) := by omega
            have z4 : (f : Int) < (N : Int) := by omega
            have HP3 := Lib.hid ((HS1.out.turn ho hp (HS1.out.tame.set_ HX.out (by exact HS1.out.tame.own4 f x HX.out) (.inl rfl)) (hands_set fs f _) (fun i m' x' cs hx' hm' => hp.memNe hb i m' x' cs hx' hm')).mono (T' := 64 * k + 64) (by omega) bT)
            clear ho hp hq hb hw
            go_wp2_with fail
            go_meet
            case rel => exact ⟨_, HP3.out⟩
        · rcases released_cases fs f O with ⟨hw, hq⟩ | ⟨hw, x, y, hx, hxo, hx0, hq, hy1, hy2, hy3⟩
          · obtain ⟨e, he⟩ : ∃ e, why fs f O = e := ⟨_, rfl⟩
            rw [he] at hw
            have heb : (e == 0) = false := by rw [beq_eq_false_iff_ne]; exact hw
            go_wp2_with fail
            refine (pool_release f O W1 HS1.out.pool (by omega)).mono ?_
            rw [hq, he]
            rintro e2 w3 ⟨rfl, ho, hp⟩
            have HP3 := Lib.hid ((HS1.out.same ho hp).mono (T' := 64 * k + 64) (by omega) bT)
            clear ho hp hq he
            go_wp2_with fail
            go_meet
            case rel => exact ⟨fs, HP3.out⟩
          · obtain ⟨_, _, q1, q2, _⟩ := HOK.out f x hx
            have q4 := HS1.out.tame.own4 f x hx
            have HX := Lib.hid hx
            have HXO := Lib.hid hxo
            have HY1 := Lib.hid hy1
            have HY2 := Lib.hid hy2
            clear hx hxo hx0 hy1 hy2 hy3
            go_wp2_with fail
            refine (pool_release f O W1 HS1.out.pool (by omega)).mono ?_
            rw [hq, hw]
            rintro e2 w3 ⟨rfl, ho, hp⟩
            have hb := HS1.out.hand2 ho
            have c := (hb.cell f).trans (hands_at HX.out)
            have y0 := hb.frozen f
            have hlt := hb.lt
            have z3 : (0 : Int) ≤ (f : Int) := by omega
            have z4 : (f : Int) < (N : Int) := by omega
            have HP3 := Lib.hid ((HS1.out.turn ho hp (HS1.out.tame.set_ HX.out (by rcases HY2.out with h | h <;> omega) (by rcases HY2.out with h | h; exact .inr (.inl (by omega)); exact .inl h)) ((hands_set fs f _).trans (by rw [HY1.out])) (fun i m' x' cs hx' hm' => hp.memNe hb i m' x' cs hx' hm')).mono (T' := 64 * k + 64) (by omega) bT)
            clear ho hp hq hb hw
            go_wp2_with fail
            go_meet
            case rel => exact ⟨_, HP3.out⟩
        · go_wp2_with fail
          refine (pool_recl O W1 HS1.out.pool (by omega)).mono ?_
          rintro e2 w3 ⟨rfl, ho, hp⟩
          have hb := HS1.out.hand2 ho
          have hkk := HS1.out.kept.trans' ho (fun q hq e => by have := HS1.out.lo0; omega)
          have HB := Lib.hid hb
          have HP3 := Lib.hid hp
          have HKK := Lib.hid hkk
          clear ho hb hp hkk
          have hlo := HS1.out.lo0
          have hlh := HS1.out.lohi
          go_wp2_with fail
          go_loopw [16] (fun v wx => ∃ (j : Nat) (cs : Array Value), v = .int .i64 j ∧ j ≤ N ∧ Mix (recl fs O) fs j cs ∧ Blk wx hi 3 cs ∧ Pool wx p N Q (64 * k + 64) lo hi (recl fs O) ∧ Kept w wx) (fun v _ => N - (intOf v).toNat)
          case atStart => exact ⟨0, _, rfl, by omega, Mix.zero _ _, HB.out, HP3.out, HKK.out⟩
          case round =>
            clear HB HP3 HKK
            obtain ⟨j, cs, rfl, hj, hmx, hb, hp, hkk⟩ := hrel
            by_cases hjN : j < N
            · obtain ⟨x, hx⟩ : ∃ x, fs[j]? = some x := ⟨_, List.getElem?_eq_getElem (by omega)⟩
              have hg := recl_get (o := O) hx
              have hown := pool_owner j _ hp
              rw [at0_get Fr.own hg] at hown
              have HOW := Lib.hid hown
              by_cases h0 : (rc O x).own = 0
              · have hh : (rc O x).hand = 0 := (hp.ok j _ hg).2.2.2.2.1 h0
                have hv := hands_at hg
                rw [hh] at hv
                have HM := Lib.hid (hmx.write (by omega) hv)
                obtain ⟨v0, f0⟩ : ∃ v, wr.cell? ⟨hi, j, none⟩ = some v := ⟨_, (hb.cell j).trans (Array.getElem?_eq_getElem (by rw [hmx.1]; omega))⟩
                have y0 := hb.frozen j
                have hlt := hb.lt
                have z3 : (0 : Int) ≤ (j : Int) := by omega
                have z4 : (j : Int) < (N : Int) := by omega
                have HB := Lib.hid hb
                have HP := Lib.hid hp
                have HKK := Lib.hid hkk
                clear hmx hb hp hkk hv hown hx
                go_wp2_with fail
                refine HOW.out.mono ?_
                rw [h0]
                rintro e w' ⟨rfl, rfl⟩
                go_wp2_with fail
                go_roundw
                case rel =>
                  have hO : Only (fun q => q = hi) wr (wr.setCell ⟨hi, j, none⟩ (.int .i64 0)) := (Only.refl (fun q => q = hi) wr).setOf (o := j) rfl _
                  refine ⟨j + 1, _, by go_num, by omega, HM.out, HB.out.set_ j _, ?_, HKK.out.trans' hO (fun q hq e => by omega)⟩
                  have hmne := HP.out.memNe HB.out
                  obtain ⟨fb, ib, cap, mb, fbs, l, ff, hpl⟩ := HP.out
                  exact ⟨fb, ib, cap, mb, fbs, l, ff, hpl.keep hO (fun q h1 h2 e => by omega) (fun i x m cs hx he e => hmne i m x cs hx he e)⟩
                case measure => simp [intOf]; omega
              · have hrc : rc O x = x := rc_no (fun q => h0 (by unfold rc; rw [if_pos q]))
                have hv : (hands (recl fs O))[j]? = (hands fs)[j]? := by rw [hands_at hg, hands_at hx, hrc]
                have HM := Lib.hid (hmx.skip hv)
                have h0b : ((rc O x).own == 0) = false := by rw [beq_eq_false_iff_ne]; exact h0
                obtain ⟨e0, he0⟩ : ∃ e0, (rc O x).own = e0 := ⟨_, rfl⟩
                rw [he0] at h0b HOW
                have HB := Lib.hid hb
                have HP := Lib.hid hp
                have HKK := Lib.hid hkk
                clear hmx hb hp hkk hv hown hx hrc h0 he0
                go_wp2_with fail
                refine HOW.out.mono ?_
                rintro e w' ⟨rfl, rfl⟩
                go_wp2_with fail
                go_roundw
                case rel => exact ⟨j + 1, _, by go_num, by omega, HM.out, HB.out, HP.out, HKK.out⟩
                case measure => simp [intOf]; omega
            · obtain rfl : N = j := by omega
              have hcs := hmx.done (by simp [recl, hlen]) hlen
              subst hcs
              have HP := Lib.hid (CntSt.mk (w := w) hp hlo hlh (Nat.le_refl _) hkk hb (HS1.out.tame.recl_ (by omega)))
              clear hmx hb hp hkk
              go_wp2_with fail
              go_meet
              case rel => exact ⟨_, HP.out⟩
      case rest =>
        clear HS HS1
        obtain ⟨fs', hst⟩ := hcut
        have hlen := hst.pool.len
        have HS := Lib.hid hst
        clear hst d0
        go_wp2_with fail
        go_loopw [17, 19] (fun s v wx => ∃ j : Nat, v = .int .i64 j ∧ 1 ≤ j ∧ j ≤ 5 ∧ s = .int .i64 (cntTo fs' (j - 1) : Nat) ∧ CntSt w wx p N Q (64 * k + 64) lo hi hi fs') (fun _ v _ => 5 - (intOf v).toNat)
        case atStart => exact ⟨1, rfl, by omega, by omega, by rw [cntTo_zero]; rfl, HS.out⟩
        case round =>
          clear HS
          obtain ⟨j, rfl, hj1, hj, rfl, hst⟩ := hrel
          have HS := Lib.hid hst
          by_cases hj4 : j < 5
          · have hc1 := cntTo_succ (j - 1) fs'
            rw [show j - 1 + 1 = j by omega, show ((j - 1 : Nat) : Int) + 1 = j by omega] at hc1
            have hq := hst.tame.quo j (by omega)
            have hl1 := cntTo_le fs' (j - 1)
            have hH := pool_held j wr hst.pool (by omega) (by omega)
            rw [if_pos (by omega)] at hH
            obtain ⟨c, hc⟩ : ∃ c, cnt fs' (j : Int) = c := ⟨_, rfl⟩
            obtain ⟨s0, hs0⟩ : ∃ c, cntTo fs' (j - 1) = c := ⟨_, rfl⟩
            rw [hc] at hq hH hc1
            rw [hs0] at hc1 hl1
            rw [hs0]
            have HH := Lib.hid hH
            have HC := Lib.hid hc1
            clear hst hH hc1 hc hs0
            go_wp2_with fail
            refine HH.out.mono ?_
            rintro e w' ⟨rfl, rfl⟩
            go_wp2_with fail
            refine HH.out.mono ?_
            rintro e w' ⟨rfl, rfl⟩
            go_wp2_with fail
            go_roundw
            case rel => exact ⟨j + 1, by go_num, by omega, by omega, by rw [Nat.add_sub_cancel, HC.out]; rfl, HS.out⟩
            case measure => simp [intOf]; omega
          · have hj5 : j = 5 := by omega
            obtain ⟨jj, hjj⟩ : ∃ jj : Int, (j : Int) = jj := ⟨_, rfl⟩
            rw [hjj]
            have hjj4 : 4 < jj := by omega
            have hall := cnt_all fs' (fun i x hx => ⟨(hst.pool.ok i x hx).1, hst.tame.own4 i x hx⟩)
            rw [show j - 1 = 4 by omega]
            obtain ⟨s0, hs0⟩ : ∃ c, cntTo fs' 4 = c := ⟨_, rfl⟩
            rw [hs0] at hall ⊢
            have HALL := Lib.hid hall
            clear hst hall hs0 hj5 hjj hj4 hj hj1
            go_wp2_with fail
            go_loopw [18, 20] (fun s v wx => ∃ j : Nat, v = .int .i64 j ∧ j ≤ N ∧ s = .int .i64 (cnt (fs'.take j) 0 : Nat) ∧ CntSt w wx p N Q (64 * k + 64) lo hi hi fs') (fun _ v _ => N - (intOf v).toNat)
            case atStart => exact ⟨0, rfl, by omega, rfl, HS.out⟩
            case round =>
              clear HS
              obtain ⟨j, rfl, hj, rfl, hst⟩ := hrel
              have HS := Lib.hid hst
              by_cases hjN : j < N
              · obtain ⟨x, hx⟩ : ∃ x, fs'[j]? = some x := ⟨_, List.getElem?_eq_getElem (by omega)⟩
                have hstep := cnt_step fs' j x 0 hx
                have hcl := cnt_le (fs'.take j) 0
                rw [List.length_take] at hcl
                obtain ⟨t0, ht0⟩ : ∃ c, cnt (fs'.take j) 0 = c := ⟨_, rfl⟩
                rw [ht0] at hstep hcl
                rw [ht0]
                obtain ⟨_, _, q1, _, q2⟩ := hst.pool.ok j x hx
                have c := (hst.hand.cell j).trans (hands_at hx)
                have hH := fun q : Nat => pool_handles j (wr.drewN q) (hst.pool.kept ((Only.refl (fun _ => False) wr).drewN q))
                have hO := fun q : Nat => pool_owner j (wr.drewN q) (hst.pool.kept ((Only.refl (fun _ => False) wr).drewN q))
                simp only [at0_get _ hx] at hH hO
                obtain ⟨xo, xh, xm⟩ := x
                simp only [] at hstep q1 q2 c hH hO
                have z3 : (0 : Int) ≤ (j : Int) := by omega
                have z4 : (j : Int) < (N : Int) := by omega
                by_cases h0 : xo = 0
                · have h1 := q2.1 h0
                  subst h0 h1
                  rw [if_pos rfl] at hstep
                  have HST := Lib.hid hstep
                  have HH := Lib.hid hH
                  have HO := Lib.hid hO
                  clear hst hH hO hstep ht0 hx q2
                  go_wp2_with fail
                  go_quiet (first | (go_at_call 15; exact quiet_left (HH.out _)) | (go_at_call 14; exact quiet_left (HO.out _)) | fail "no arm")
                  have hst1 := HS.out.keep ((Only.refl (fun _ => False) wr).drewN nq)
                  replace c := kept_cell ((Only.refl (fun _ => False) wr).drewN nq) c
                  generalize (wr.drewN nq) = W2 at *
                  have HS1 := Lib.hid hst1
                  clear hst1
                  go_wp2_with fail
                  go_roundw
                  case rel => exact ⟨j + 1, by go_num, by omega, by rw [HST.out]; rfl, HS1.out⟩
                  case measure => simp [intOf]; omega
                · have h1 : xh ≠ 0 := fun e => h0 (q2.2 e)
                  rw [if_neg h0] at hstep
                  have g1 : (xo == 0) = false := by rw [beq_eq_false_iff_ne]; exact h0
                  have g2 : (xh == 0) = false := by rw [beq_eq_false_iff_ne]; exact h1
                  have HST := Lib.hid hstep
                  have HH := Lib.hid hH
                  have HO := Lib.hid hO
                  clear hst hH hO hstep ht0 hx q2
                  go_wp2_with fail
                  go_quiet (first | (go_at_call 15; exact quiet_left (HH.out _)) | (go_at_call 14; exact quiet_left (HO.out _)) | fail "no arm")
                  have hst1 := HS.out.keep ((Only.refl (fun _ => False) wr).drewN nq)
                  replace c := kept_cell ((Only.refl (fun _ => False) wr).drewN nq) c
                  generalize (wr.drewN nq) = W2 at *
                  have HS1 := Lib.hid hst1
                  clear hst1
                  go_wp2_with fail
                  go_roundw
                  case rel => exact ⟨j + 1, by go_num, by omega, by rw [HST.out]; rfl, HS1.out⟩
                  case measure => simp [intOf]; omega
              · obtain rfl : N = j := by omega
                have e1 : fs'.take N = fs' := List.take_of_length_le (by omega)
                rw [e1]
                have hF := pool_free hst.pool
                obtain ⟨t0, ht0⟩ : ∃ c, cnt fs' 0 = c := ⟨_, rfl⟩
                rw [ht0] at hF ⊢
                have hall := HALL.out
                rw [ht0, hlen] at hall
                have hallI : (t0 : Int) + (s0 : Int) = (N : Int) := by omega
                have HF := Lib.hid hF
                clear hst hF ht0 e1
                go_wp2_with fail
                refine HF.out.mono ?_
                rintro e w' ⟨rfl, rfl⟩
                go_wp2_with fail
                go_roundw
                case rel => exact ⟨k + 1, fs', by go_num, by omega, by rw [show 64 * (k + 1) = 64 * k + 64 by omega]; exact HS.out⟩
                case measure => simp [intOf]; omega
    · clear hst
      go_wp2_with fail
      go_returns
      exact ⟨rfl, HS.out.kept⟩
end Go.Proofs.Ytjfbanemjceimaa

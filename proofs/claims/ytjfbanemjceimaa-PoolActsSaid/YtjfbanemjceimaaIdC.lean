/- The free frames' Pop and Push, container/heap's up, Pop and Push. -/
import Derived.Test.YtjfbanemjceimaaIdB
namespace Go.Proofs.Ytjfbanemjceimaa
open Go.RowKit
set_option linter.unusedVariables false
set_option linter.unusedSimpArgs false
set_option linter.unnecessarySimpa false

theorem as3 (v : Value) (w : World) : (Instr.typeAssert (.iface 3 v) 20 3 false).run Try.prog w = .ok v w := by kernel_rfl

theorem ipop_ok (p ib cap n : Nat) (fr m q : Value) (x : Int) (cs : Array Value) (w : World) (hb : Blk w p 30 #[fr, .slice (some ⟨ib, 0, none⟩) (n + 1) cap, m, q]) (hr : Blk w ib 3 cs) (hx : cs[n]? = some (.int .i64 x)) (hc : n + 1 ≤ cap) (hn : n ≤ 1000) :
    Calls Try.prog 69 #[.pointer (some ⟨p, 1, none⟩)] w fun e w' => e = .returned (.iface 3 (.int .i64 x)) ∧ Blk w' p 30 #[fr, .slice (some ⟨ib, 0, none⟩) n cap, m, q] ∧ Only (fun k => k = p) w w' := by
  have k1 := hb.cell 1
  have z1 := hb.frozen 1
  have r1 := (hr.cell n).trans hx
  simp at k1
  have HB := Lib.hid hb
  have i0 : (0 : Int) ≤ (n : Int) := by omega
  have i1 : (n : Int) < ((n + 1 : Nat) : Int) := by omega
  have i2 : (n : Int) ≤ (cap : Int) := by omega
  clear hb hr hx
  go_enter Try.func69, Try.ntmps69
  go_wp2_with fail
  go_quiet (fail)
  go_wp2_with fail
  have B1 : Blk (w.drewN nq) p 30 _ := HB.out.drewN _
  have O1 : Only (fun k => k = p) w (w.drewN nq) := (Only.refl _ w).drewN _
  generalize (w.drewN nq) = W at *
  clear k1 z1 r1
  have k1 := B1.cell 1
  have z1 := B1.frozen 1
  simp at k1
  have HB1 := Lib.hid B1
  have HO1 := Lib.hid O1
  clear B1 O1
  go_region
  go_wp2_with fail
  go_ret
  exact ⟨rfl, Blk.drew (by simpa using HB1.out.set_ 1 (.slice (some ⟨ib, 0, none⟩) n cap)), (HO1.out.setOf (o := 1) rfl _).drew⟩

theorem ipush_ok (p ib cap n : Nat) (fr m q : Value) (x : Int) (cs : Array Value) (w : World) (hb : Blk w p 30 #[fr, .slice (some ⟨ib, 0, none⟩) n cap, m, q]) (hr : Blk w ib 3 cs) (hs : cs.size = cap) (hc : n + 1 ≤ cap) (hn : n ≤ 1000) :
    Calls Try.prog 70 #[.pointer (some ⟨p, 1, none⟩), .iface 3 (.int .i64 x)] w fun e w' => (∃ v, e = .returned v) ∧ Blk w' p 30 #[fr, .slice (some ⟨ib, 0, none⟩) (n + 1) cap, m, q] ∧ Blk w' ib 3 (cs.setIfInBounds n (.int .i64 x)) ∧ Only (fun k => k = p ∨ k = ib) w w' := by
  obtain ⟨i0, hi, hz0, hz1, hz2⟩ := info_parts (show (Try.prog.info? 3).map (fun i => (i.zero, i.size, i.bytes)) = some (some (.int .i64 0), 1, 8) by kernel_rfl)
  have hpi : p ≠ ib := hb.ne_ hr (by decide)
  have k1 := hb.cell 1
  have z1 := hb.frozen 1
  simp at k1
  obtain ⟨v0, f0⟩ : ∃ v, w.cell? ⟨ib, n, none⟩ = some v := ⟨_, (hr.cell _).trans (Array.getElem?_eq_getElem (by omega))⟩
  have y0 := hr.frozen n
  have hltp := hb.lt
  have hlti := hr.lt
  have HB := Lib.hid hb
  have HR := Lib.hid hr
  clear hb hr
  have has := as3
  go_enter Try.func70, Try.ntmps70
  go_wp2_with fail
  go_region
  go_wp2_with fail
  go_end0
  refine ⟨⟨_, rfl⟩, ?_, ?_, ?_⟩
  · exact Blk.drew (Blk.alloc (by simpa using (HB.out.far' (o := n) hpi (.int .i64 x)).set_ 1 (.slice (some ⟨ib, 0, none⟩) (n + 1) cap)) _)
  · exact Blk.drew (Blk.alloc ((HR.out.set_ n (.int .i64 x)).far' (o := 1) hpi.symm _) _)
  · exact Only.drew (Only.alloc (((Only.refl (fun k => k = p ∨ k = ib) w).setOf (o := n) (.inr rfl) _).setOf (o := 1) (.inl rfl) _) _)

theorem t62pop : Try.t62.methods.find? (fun x => x.name == "Pop") = some ⟨"Pop", 81, #[], some (69, true)⟩ := by kernel_rfl
theorem t62push : Try.t62.methods.find? (fun x => x.name == "Push") = some ⟨"Push", 85, #[], some (70, true)⟩ := by kernel_rfl

theorem up_calls (p ib cap L j : Nat) (l : List Nat) (w : World) (hp : w.cell? ⟨p, 1, none⟩ = some (.slice (some ⟨ib, 0, none⟩) L cap)) (hpi : p ≠ ib) (hr : Row w ib cap l) (hL : l.length = L) (hj : j < L) (hb : L ≤ 1000)
    (hd : UpF (kk nk l) L j) :
    Calls Try.prog 48 #[.iface 62 (.pointer (some ⟨p, 1, none⟩)), .int .i64 j] w fun e w' => (∃ v, e = .returned v) ∧ ∃ l', Row w' ib cap l' ∧ l'.Perm l ∧ HeapF (kk nk l') L ∧ Only (fun k => k = ib) w w' := by
  have HR := Lib.hid hr
  have HL := Lib.hid hL
  have HD := Lib.hid hd
  clear hr hL hd
  go_enter Try.func48, Try.ntmps48
  go_wp2_with fail
  go_loopw [1, 4] (fun v _ wr => ∃ (j : Nat) (l1 : List Nat), v = .int .i64 j ∧ j < L ∧ Row wr ib cap l1 ∧ l1.Perm l ∧ UpF (kk nk l1) L j ∧ Only (fun k => k = ib) w wr) (fun v _ _ => (intOf v).toNat)
  case atStart => exact ⟨j, l, rfl, by omega, HR.out, List.Perm.refl _, HD.out, Only.refl _ _⟩
  case round =>
    obtain ⟨j, l1, rfl, hj, hr, hpm, hd, ho⟩ := hrel
    have H1 := Lib.hid hr
    have H2 := Lib.hid hpm
    have H4 := Lib.hid hd
    have H5 := Lib.hid ho
    have hl1 : Hid (l1.length = L) := Lib.hid (by rw [hpm.length_eq, HL.out])
    have hc := only_cell ho hp hpi
    clear hr hpm hd ho
    obtain ⟨i, hi⟩ : ∃ i, (j - 1) / 2 = i := ⟨_, rfl⟩
    have hq : ((j : Int) - 1).tdiv 2 = (i : Int) := by
      by_cases h0 : j = 0
      · subst h0; obtain rfl : i = 0 := by omega
        rfl
      · rw [Int.tdiv_eq_ediv_of_nonneg (by omega)]; omega
    have HI := Lib.hid hi
    by_cases h0 : j = 0
    · have hij : ((i : Int) == (j : Int)) = true := by rw [beq_iff_eq]; omega
      clear hi
      go_wp2_with fail
      go_end0
      exact ⟨⟨_, rfl⟩, l1, H1.out, H2.out, up_end H4.out (fun h => absurd h (by omega)), H5.out⟩
    · have hij : ((i : Int) == (j : Int)) = false := by rw [beq_eq_false_iff_ne]; omega
      have hil : i < j := by omega
      clear hi
      obtain ⟨x, hx⟩ : ∃ x, l1[j]? = some x := ⟨_, List.getElem?_eq_getElem (by rw [hl1.out]; omega)⟩
      obtain ⟨y, hy⟩ : ∃ y, l1[i]? = some y := ⟨_, List.getElem?_eq_getElem (by rw [hl1.out]; omega)⟩
      have HX := Lib.hid hx
      have HY := Lib.hid hy
      clear hx hy
      have hm2 := m_less p 1 wr _ hc
      go_wp2_with fail
      refine (H1.out.less (i := j) (j := i) (x := x) (y := y) hl1.out HX.out HY.out).mono ?_
      rintro e w3 ⟨rfl, hr3, hk3⟩
      have hc3 := kept_cell hk3 hc
      have HR3 := Lib.hid hr3
      have HK3 := Lib.hid (H5.out.trans (Only.mono (S' := fun k => k = ib) hk3 (fun _ _ f => f.elim)))
      clear hr3 hk3
      by_cases hlt : x < y
      · have hdt : decide ((x : Int) < (y : Int)) = true := decide_eq_true (by omega)
        have hm3 := m_swap p 1 w3 _ hc3
        go_wp2_with fail
        refine (HR3.out.swap (i := i) (j := j) hl1.out (by omega) (by omega)).mono ?_
        rintro e w4 ⟨⟨v4, rfl⟩, hr4, ho4⟩
        have H6 := Lib.hid hr4
        have H7 := Lib.hid ho4
        clear hr4 ho4
        go_wp2_with fail
        go_roundw
        case rel =>
          refine ⟨i, swp l1 i j, by go_num, by omega, H6.out, (swp_perm l1 i j).trans H2.out, ?_, (HK3.out.trans H7.out)⟩
          rw [kk_swp nk l1 (by rw [hl1.out]; omega) (by rw [hl1.out]; omega)]
          have := up_step H4.out (by omega) hj (by rw [HI.out, kk_at nk HX.out, kk_at nk HY.out]; unfold nk; omega)
          rw [HI.out] at this
          exact this
        case measure => simp [intOf]; omega
      · have hdf : decide ((x : Int) < (y : Int)) = false := decide_eq_false (by omega)
        go_wp2_with fail
        go_end0
        exact ⟨⟨_, rfl⟩, l1, HR3.out, H2.out, up_end H4.out (fun _ => by rw [HI.out, kk_at nk HX.out, kk_at nk HY.out]; unfold nk; omega), HK3.out⟩
end Go.Proofs.Ytjfbanemjceimaa

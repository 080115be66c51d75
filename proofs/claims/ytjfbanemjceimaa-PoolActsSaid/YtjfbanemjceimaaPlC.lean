/- A frame is let free; whose a frame is. -/
import Derived.Test.YtjfbanemjceimaaPlB
namespace Go.Proofs.Ytjfbanemjceimaa
open Go.RowKit Go.Maps
set_option linter.unusedVariables false
set_option linter.unusedSimpArgs false
set_option linter.unnecessarySimpa false

section
variable {p fb ib cap mb T N Q lo hi : Nat} {fbs : List Nat} {fs : List Fr} {l : List Nat} {f : Int → Int}

set_option maxHeartbeats 2000000 in
theorem frees_ok (n b : Nat) (x : Fr) (v : Value) (w w1 : World) (h : PL w p fb ib cap mb T N Q lo hi fbs fs l f) (hb : fbs[n]? = some b) (hx : fs[n]? = some x) (hown : x.own ≠ 0) (hw1 : Only (fun k => k = b) w w1)
    (hb1 : Blk w1 b 65 #[.int .i64 x.own, v, memVal x.mem]) (hT : T + 1 ≤ 900000) :
    Calls Try.prog 31 #[.pointer (some ⟨p, 0, none⟩), .int .i64 n] w1 fun e w' => (∃ v, e = .returned v) ∧ Only (Few p ib mb b) w1 w' ∧
      ∃ l', PL w' p fb ib cap mb (T + 1) N Q lo hi fbs (fs.set n ⟨0, 0, x.mem⟩) l' (setAt f x.own (f x.own + -1)) := by
  have hnN : n < N := by have := (List.getElem?_eq_some_iff.1 hx).1; have := h.books.len; omega
  have hN64 := h.N64
  have hbx := h.fr n b x hb hx
  have hc : w.cell? ⟨fb, n, none⟩ = some (.pointer (some ⟨b, 0, none⟩)) := (h.tab.cell n).trans (ptrs_get hb)
  obtain ⟨rcs, hrow, _⟩ := h.idle.row
  have hfb : fb ≠ b := h.tab.ne_ hbx (by decide)
  have hfm : fb ≠ mb := h.map.ne_ h.tab
  have hpb : p ≠ b := h.idle.box.ne_ hbx (by decide)
  have hib : ib ≠ b := hrow.ne_ hbx (by decide)
  have hpm : p ≠ mb := h.map.ne_ h.idle.box
  have him : ib ≠ mb := h.map.ne_ hrow
  have hbm : b ≠ mb := h.map.ne_ hbx
  have hok := h.books.ok n x hx
  have hcnt := h.books.cnt x.own
  rw [if_pos (by omega)] at hcnt
  have hcl := cnt_le fs x.own
  have hcp := cnt_pos hx
  have hlen := h.books.len
  have hc1 := only_cell hw1 hc hfb
  have hi1 := h.idle.keep hw1 hpb hib
  have hm1 := h.map.keep hw1 (fun e => hbm e.symm)
  have k0 := hi1.box.cell 0
  have b0 := hb1.cell 0
  simp at k0 b0
  have hno : n ∉ l := fun hi => by
    obtain ⟨y, hy, hy0⟩ := (h.books.free n).1 hi
    rw [hx] at hy; cases hy
    exact hown hy0
  have hll : l.length < N := by
    have := nodup_lt N (n :: l) (List.nodup_cons.2 ⟨hno, h.books.nd⟩) (fun i hi => by
      rcases List.mem_cons.1 hi with rfl | hi
      · exact hnN
      · obtain ⟨y, hy, _⟩ := (h.books.free i).1 hi
        have := (List.getElem?_eq_some_iff.1 hy).1
        omega)
    simp at this
    omega
  have hcapN := h.capN
  have H := Lib.hid h
  have HB := Lib.hid hb
  have HX := Lib.hid hx
  have HI1 := Lib.hid hi1
  have HM1 := Lib.hid hm1
  have HB1 := Lib.hid hb1
  have HW1 := Lib.hid hw1
  clear h hb hx hi1 hm1 hb1 hw1 hbx hrow hc
  go_enter Try.func31, Try.ntmps31
  go_wp2_with fail
  refine (more_ok p mb T f _ _ _ x.own (-1) (f x.own + -1) _ HI1.out.box HM1.out (by omega) (by omega) (by omega) rfl (by omega) (by omega)).mono ?_
  rintro e w2 ⟨⟨v2, rfl⟩, hm2, ho2⟩
  have B2 := ho2.blk HB1.out hbm
  have hi2 := HI1.out.keep ho2 hpm him
  have c0 := B2.cell 0
  have c1 := B2.cell 1
  have y0 := B2.frozen 0
  have y1 := B2.frozen 1
  simp at c0 c1
  have HM2 := Lib.hid hm2
  have HO2 := Lib.hid ho2
  have HB2 := Lib.hid B2
  have HI2 := Lib.hid hi2
  clear hm2 ho2 B2 hi2
  go_wp2_with fail
  have ho3 := ((Only.refl (fun k => k = b) w2).setOf (o := 0) rfl (.int .i64 0)).setOf (o := 1) rfl (.int .i64 0)
  have hi3 := HI2.out.keep ho3 hpb hib
  have hb3 := (HB2.out.set_ 0 (.int .i64 0)).set_ 1 (.int .i64 0)
  have hm3 := HM2.out.keep ho3 (fun e => hbm e.symm)
  refine (hpush_ok p ib cap _ _ _ n l _ hi3 (by omega) (by omega)).mono ?_
  rintro e w4 ⟨⟨v4, rfl⟩, l', hi4, hp4, ho4⟩
  have HO3 := Lib.hid ho3
  have HB3 := Lib.hid hb3
  have HM3 := Lib.hid hm3
  have HI4 := Lib.hid hi4
  have HP4 := Lib.hid hp4
  have HO4 := Lib.hid ho4
  clear ho3 hi3 hb3 hm3 hi4 hp4 ho4
  go_wp2_with fail
  go_returns
  have hoB : Only (Few p ib mb b) w1 w4 := ((HO2.out.mono (S' := Few p ib mb b) (fun k _ e => .inr (.inr (.inl e)))).trans (HO3.out.mono (fun k _ e => .inr (.inr (.inr e))))).trans (HO4.out.mono (fun k _ e => e.elim .inl (fun e => .inr (.inl e))))
  refine ⟨⟨_, rfl⟩, hoB, l', ?_⟩
  refine H.out.turned HB.out HX.out ((HW1.out.mono (S' := Few p ib mb b) (fun k _ e => .inr (.inr (.inr e)))).trans hoB) HI4.out (HM3.out.keep HO4.out (fun e => e.elim (fun e => hpm e.symm) (fun e => him e.symm))) ?_ rfl hT (H.out.books.give HX.out hown HP4.out)
  refine HO4.out.blk ?_ (fun e => e.elim (fun e => hpb e.symm) (fun e => hib e.symm))
  simpa using HB3.out

/-- Why a frame is not an owner's. -/
def why (fs : List Fr) (n o : Int) : Int := if at0 fs Fr.own n = 0 then 18 else if at0 fs Fr.own n = o then 0 else 19

set_option maxHeartbeats 1000000 in
theorem pof_no (n o : Int) (w : World) (h : PL w p fb ib cap mb T N Q lo hi fbs fs l f) (hw : why fs n o ≠ 0) :
    Calls Try.prog 32 #[.pointer (some ⟨p, 0, none⟩), .int .i64 n, .int .i64 o] w fun e w' => e = .returned (.tuple #[.pointer none, .int .i64 (why fs n o)]) ∧ w = w' := by
  have k0 := h.idle.box.cell 0
  simp at k0
  have hlen := h.books.len
  by_cases h0 : n < 0
  · have e0 : why fs n o = 18 := by unfold why at0; rw [if_pos (by rw [if_neg (by omega)])]
    rw [e0]
    have H := Lib.hid h
    clear h hlen hw e0
    go_enter Try.func32, Try.ntmps32
    go_wp2_with fail
    refine (pnone_ok p _ _ _ Q _ H.out.idle.box H.out.Q1).mono ?_
    rintro e w' ⟨rfl, rfl⟩
    go_wp2_with fail
    go_returns
    exact ⟨rfl, rfl⟩
  · obtain ⟨m, rfl⟩ := Int.eq_ofNat_of_zero_le (show 0 ≤ n by omega)
    by_cases hm : m < N
    · obtain ⟨b, x, hb, hx, hbx, hc⟩ := h.at_ hm
      have c0 := hbx.cell 0
      simp at c0
      have e0 : at0 fs Fr.own (m : Int) = x.own := by unfold at0; rw [if_pos (by omega)]; simp [hx]
      by_cases hz : x.own = 0
      · have e1 : why fs (m : Int) o = 18 := by unfold why; rw [e0, if_pos hz]
        rw [e1]
        have hzb : (x.own == 0) = true := by rw [beq_iff_eq]; exact hz
        have H := Lib.hid h
        clear h hlen hb hx hbx e0 h0 hw e1 hz
        go_enter Try.func32, Try.ntmps32
        go_wp2_with fail
        refine (pnone_ok p _ _ _ Q _ H.out.idle.box H.out.Q1).mono ?_
        rintro e w' ⟨rfl, rfl⟩
        go_wp2_with fail
        go_returns
        exact ⟨rfl, rfl⟩
      · have hne : x.own ≠ o := by intro e; apply hw; unfold why; rw [e0, if_neg hz, if_pos e]
        have e1 : why fs (m : Int) o = 19 := by unfold why; rw [e0, if_neg hz, if_neg hne]
        rw [e1]
        have hzb : (x.own == 0) = false := by rw [beq_eq_false_iff_ne]; exact hz
        have hnb : (x.own == o) = false := by rw [beq_eq_false_iff_ne]; exact hne
        have H := Lib.hid h
        clear h hlen hb hx hbx e0 h0 hw e1 hz hne
        go_enter Try.func32, Try.ntmps32
        go_wp2_with fail
        refine (pnone_ok p _ _ _ Q _ H.out.idle.box H.out.Q1).mono ?_
        rintro e w' ⟨rfl, rfl⟩
        go_wp2_with fail
        go_returns
        exact ⟨rfl, rfl⟩
    · have e0 : why fs (m : Int) o = 18 := by unfold why at0; rw [if_pos (by rw [if_pos (by omega)]; simp [List.getElem?_eq_none (show fs.length ≤ m by omega)])]
      rw [e0]
      have H := Lib.hid h
      clear h hlen e0 h0 hw
      go_enter Try.func32, Try.ntmps32
      go_wp2_with fail
      refine (pnone_ok p _ _ _ Q _ H.out.idle.box H.out.Q1).mono ?_
      rintro e w' ⟨rfl, rfl⟩
      go_wp2_with fail
      go_returns
      exact ⟨rfl, rfl⟩

theorem pof_ok (n b : Nat) (x : Fr) (w : World) (h : PL w p fb ib cap mb T N Q lo hi fbs fs l f) (hb : fbs[n]? = some b) (hx : fs[n]? = some x) (hown : x.own ≠ 0) :
    Calls Try.prog 32 #[.pointer (some ⟨p, 0, none⟩), .int .i64 n, .int .i64 x.own] w fun e w' => e = .returned (.tuple #[.pointer (some ⟨b, 0, none⟩), .int .i64 0]) ∧ w = w' := by
  have k0 := h.idle.box.cell 0
  simp at k0
  have hnN : n < N := by have := (List.getElem?_eq_some_iff.1 hx).1; have := h.books.len; omega
  have hbx := h.fr n b x hb hx
  have hc : w.cell? ⟨fb, n, none⟩ = some (.pointer (some ⟨b, 0, none⟩)) := (h.tab.cell n).trans (ptrs_get hb)
  have c0 := hbx.cell 0
  simp at c0
  have hzb : (x.own == 0) = false := by rw [beq_eq_false_iff_ne]; exact hown
  have H := Lib.hid h
  clear h hb hx hbx hown
  go_enter Try.func32, Try.ntmps32
  go_wp2_with fail
  refine (pnone_ok p _ _ _ Q _ H.out.idle.box H.out.Q1).mono ?_
  rintro e w' ⟨rfl, rfl⟩
  go_wp2_with fail
  go_returns
  exact ⟨rfl, rfl⟩
end
end Go.Proofs.Ytjfbanemjceimaa

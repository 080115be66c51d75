/- Acquire takes the least free frame. -/
import Derived.Test.YtjfbanemjceimaaPlA
namespace Go.Proofs.Ytjfbanemjceimaa
open Go.RowKit Go.Maps
set_option linter.unusedVariables false
set_option linter.unusedSimpArgs false
set_option linter.unnecessarySimpa false

section
variable {p fb ib cap mb T N Q lo hi : Nat} {fbs : List Nat} {fs : List Fr} {l : List Nat} {f : Int → Int}

set_option maxHeartbeats 2000000 in
theorem pacq_ok (o : Int) (n : Nat) (x : Fr) (w : World) (h : PL w p fb ib cap mb T N Q lo hi fbs fs l f) (h1 : 1 ≤ o) (h2 : o ≤ 2147483647) (hq : f o < (Q : Int)) (hl : l[0]? = some n) (hx : fs[n]? = some x) (hT : T + 1 ≤ 900000) :
    Calls Try.prog 8 #[.pointer (some ⟨p, 0, none⟩), .int .i64 o] w fun e w' => e = .returned (.tuple #[.int .i64 n, .int .i64 0]) ∧ Only (fun k => lo ≤ k ∧ k < hi) w w' ∧
      ∃ l', PL w' p fb ib cap mb (T + 1) N Q lo hi fbs (fs.set n ⟨o, 1, x.mem⟩) l' (setAt f o (f o + 1)) := by
  have k1 := h.idle.box.cell 1
  have k2 := h.idle.box.cell 2
  have k3 := h.idle.box.cell 3
  simp at k1 k2 k3
  have hlook : ∀ q, (Instr.lookup 28 (.map (some mb)) (.int .i64 o) false).run Try.prog (w.drewN q) = .ok (.agg #[.int .i64 (f o)]) (w.drewN q) := fun q => (h.map.keep ((Only.refl (fun _ => False) w).drewN q) (fun f => f)).look (by omega) (by omega)
  have hlook0 := h.map.look (o := o) (by omega) (by omega)
  have hfl := fld60
  have has := as3
  obtain ⟨g, hg⟩ : ∃ g, f o = g := ⟨_, rfl⟩
  rw [hg] at hq hlook0
  simp only [hg] at hlook
  have hqd : decide ((Q : Int) ≤ g) = false := decide_eq_false (by omega)
  obtain ⟨L, hL⟩ : ∃ L, l.length = L := ⟨_, rfl⟩
  have hL0 : 0 < L := by have := (List.getElem?_eq_some_iff.1 hl).1; omega
  rw [hL] at k1
  have hLz : ((L : Int) == 0) = false := by rw [beq_eq_false_iff_ne]; omega
  have hnN : n < N := by have := (List.getElem?_eq_some_iff.1 hx).1; have := h.books.len; omega
  have hN64 := h.N64
  obtain ⟨b, x', hb, hx', hbx, hc⟩ := h.at_ hnN
  obtain rfl : x = x' := by rw [hx] at hx'; cases hx'; rfl
  obtain ⟨rcs, hrow, _⟩ := h.idle.row
  have hfp : ¬ (fb = p ∨ fb = ib) := by
    rintro (e | e)
    · exact h.tab.ne_ h.idle.box (by decide) e
    · exact h.tab.ne_ hrow (by decide) e
  have hbp : ¬ (b = p ∨ b = ib) := by
    rintro (e | e)
    · exact hbx.ne_ h.idle.box (by decide) e
    · exact hbx.ne_ hrow (by decide) e
  have hmp : ¬ (mb = p ∨ mb = ib) := by
    rintro (e | e)
    · exact h.map.ne_ h.idle.box e.symm
    · exact h.map.ne_ hrow e.symm
  have hbm : b ≠ mb := h.map.ne_ hbx
  have hown : x.own = 0 := by
    obtain ⟨y, hy, hy0⟩ := (h.books.free n).1 (List.mem_iff_getElem?.2 ⟨0, hl⟩)
    rw [hx] at hy; cases hy; exact hy0
  have H := Lib.hid h
  have HL := Lib.hid hL
  have HG := Lib.hid hg
  have HX := Lib.hid hx
  have HBX := Lib.hid hbx
  have HB := Lib.hid hb
  have HLL := Lib.hid hl
  have HOWN := Lib.hid hown
  clear h hg hL hx hx' hbx hb hl hrow hown
  go_enter Try.func8, Try.ntmps8
  go_wp2_with fail
  refine (pnone_ok p _ _ _ Q _ H.out.idle.box H.out.Q1).mono ?_
  rintro e w' ⟨rfl, rfl⟩
  go_wp2_with fail
  go_quiet (fail)
  go_wp2_with fail
  refine (hpop_ok p ib cap (L - 1) _ _ _ n l _ (H.out.idle.keep ((Only.refl (fun _ => False) w).drewN _) (fun f => f) (fun f => f)) (by rw [HL.out]; omega) HLL.out).mono ?_
  rintro e w1 ⟨rfl, l', hi1, hp1, ho1⟩
  have ho1' : Only (fun k => k = p ∨ k = ib) w w1 := ⟨ho1.os, ho1.tape, ho1.output, ho1.size, ho1.block⟩
  have c1 := only_cell ho1' hc hfp
  have B1 := ho1'.blk HBX.out hbp
  have b0 := B1.cell 0
  have b1 := B1.cell 1
  have y0 := B1.frozen 0
  have y1 := B1.frozen 1
  have q0 := hi1.box.cell 0
  simp at b0 b1 q0
  have HI1 := Lib.hid hi1
  have HP1 := Lib.hid hp1
  have HO1 := Lib.hid ho1'
  have HB1 := Lib.hid B1
  clear hi1 hp1 ho1 ho1' B1 hlook hlook0
  go_wp2_with fail
  have hm2 : HM ((w1.setCell ⟨b, 0, none⟩ (.int .i64 o)).setCell ⟨b, 1, none⟩ (.int .i64 1)) mb T f := (H.out.map.keep HO1.out hmp).keep (S := fun k => k = b) (((Only.refl (fun k => k = b) w1).setOf (o := 0) rfl _).setOf (o := 1) rfl _) (fun e => hbm e.symm)
  have hi2 := HI1.out.keep (S := fun k => k = b) (((Only.refl (fun k => k = b) w1).setOf (o := 0) rfl (.int .i64 o)).setOf (o := 1) rfl (.int .i64 1)) (fun e => hbp (.inl e.symm)) (fun e => hbp (.inr e.symm))
  have hb2 := (HB1.out.set_ 0 (.int .i64 o)).set_ 1 (.int .i64 1)
  have ho2 := ((Only.refl (fun k => k = b) w1).setOf (o := 0) rfl (.int .i64 o)).setOf (o := 1) rfl (.int .i64 1)
  have hf0 : 0 ≤ f o := by have := H.out.books.cnt o; rw [if_pos (by omega)] at this; omega
  have hQN := H.out.QN
  have hgg := HG.out
  refine (more_ok p mb T f _ _ _ o 1 (f o + 1) _ hi2.box hm2 (by omega) (by omega) (by omega) rfl (by omega) (by omega)).mono ?_
  rintro e w3 ⟨⟨v3, rfl⟩, hm3, ho3⟩
  have HM3 := Lib.hid hm3
  have HO3 := Lib.hid ho3
  have HI2 := Lib.hid hi2
  have HB2 := Lib.hid hb2
  have HO2 := Lib.hid ho2
  clear hm2 hi2 hb2 ho2 hm3 ho3 hf0 hgg
  go_wp2_with fail
  go_returns
  have hmb3 : ∀ {t : TypeId} {cs : Array Value} {k : Nat}, Blk w3 k t cs → k ≠ mb := fun hk => HM3.out.ne_ hk
  have hoA : Only (Few p ib mb b) w w3 := ((HO1.out.mono (S' := Few p ib mb b) (fun k _ e => e.elim .inl (fun e => .inr (.inl e)))).trans (HO2.out.mono (fun k _ e => .inr (.inr (.inr e))))).trans (HO3.out.mono (fun k _ e => .inr (.inr (.inl e))))
  refine ⟨rfl, hoA.mono (fun k _ e => H.out.few HB.out k e), l', ?_⟩
  refine H.out.turned HB.out HX.out hoA (HI2.out.keep HO3.out (fun e => hmp (.inl e.symm)) (fun e => hmp (.inr e.symm))) HM3.out ?_ rfl hT (H.out.books.take HX.out HOWN.out h1 h2 HP1.out)
  refine HO3.out.blk ?_ hbm
  simpa using HB2.out
end
end Go.Proofs.Ytjfbanemjceimaa

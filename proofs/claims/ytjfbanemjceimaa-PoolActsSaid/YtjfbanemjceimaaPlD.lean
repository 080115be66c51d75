/- Retain and Release. -/
import Derived.Test.YtjfbanemjceimaaPlC
namespace Go.Proofs.Ytjfbanemjceimaa
open Go.RowKit Go.Maps
set_option linter.unusedVariables false
set_option linter.unusedSimpArgs false
set_option linter.unnecessarySimpa false

section
variable {p fb ib cap mb T N Q lo hi : Nat} {fbs : List Nat} {fs : List Fr} {l : List Nat} {f : Int → Int}

theorem pret_no (n o : Int) (w : World) (h : PL w p fb ib cap mb T N Q lo hi fbs fs l f) (hw : why fs n o ≠ 0) :
    Calls Try.prog 12 #[.pointer (some ⟨p, 0, none⟩), .int .i64 n, .int .i64 o] w fun e w' => e = .returned (.int .i64 (why fs n o)) ∧ w = w' := by
  have hz : (why fs n o == 0) = false := by rw [beq_eq_false_iff_ne]; exact hw
  have hc := pof_no n o w h hw
  obtain ⟨r, hr⟩ : ∃ r, why fs n o = r := ⟨_, rfl⟩
  rw [hr] at hz hc ⊢
  clear h hw hr
  have HC := Lib.hid hc
  clear hc
  go_enter Try.func12, Try.ntmps12
  go_wp2_with fail
  refine HC.out.mono ?_
  rintro e w' ⟨rfl, rfl⟩
  go_wp2_with fail
  go_returns
  exact ⟨rfl, rfl⟩

theorem prel_no (n o : Int) (w : World) (h : PL w p fb ib cap mb T N Q lo hi fbs fs l f) (hw : why fs n o ≠ 0) :
    Calls Try.prog 13 #[.pointer (some ⟨p, 0, none⟩), .int .i64 n, .int .i64 o] w fun e w' => e = .returned (.int .i64 (why fs n o)) ∧ w = w' := by
  have hz : (why fs n o == 0) = false := by rw [beq_eq_false_iff_ne]; exact hw
  have hc := pof_no n o w h hw
  obtain ⟨r, hr⟩ : ∃ r, why fs n o = r := ⟨_, rfl⟩
  rw [hr] at hz hc ⊢
  clear h hw hr
  have HC := Lib.hid hc
  clear hc
  go_enter Try.func13, Try.ntmps13
  go_wp2_with fail
  refine HC.out.mono ?_
  rintro e w' ⟨rfl, rfl⟩
  go_wp2_with fail
  go_returns
  exact ⟨rfl, rfl⟩

theorem PL.hands {w w' : World} (h : PL w p fb ib cap mb T N Q lo hi fbs fs l f) {n b T' : Nat} {x : Fr} (hd : Int) (hb : fbs[n]? = some b) (hx : fs[n]? = some x) (ho : Only (fun k => k = b) w w')
    (hbx : Blk w' b 65 #[.int .i64 x.own, .int .i64 hd, memVal x.mem]) (hT : T ≤ T') (hT' : T' ≤ 900000) (h1 : 0 ≤ hd) (h2 : hd ≤ T') (h3 : x.own = 0 ↔ hd = 0) : PL w' p fb ib cap mb T' N Q lo hi fbs (fs.set n ⟨x.own, hd, x.mem⟩) l f := by
  obtain ⟨rcs, hrow, _⟩ := h.idle.row
  have hbb := h.fr n b x hb hx
  have hm := h.map.keep ho (fun e => h.map.ne_ hbb e.symm)
  obtain ⟨q, D, a1, a2, a3⟩ := hm
  exact h.turned hb hx (ho.mono (fun k _ e => .inr (.inr (.inr e)))) (h.idle.keep ho (h.idle.box.ne_ hbb (by decide)) (hrow.ne_ hbb (by decide))) ⟨q, D, by omega, a2, a3⟩ hbx rfl hT' (h.books.turn hx hT hd x.mem h1 h2 h3)

theorem pret_ok (n b : Nat) (x : Fr) (w : World) (h : PL w p fb ib cap mb T N Q lo hi fbs fs l f) (hb : fbs[n]? = some b) (hx : fs[n]? = some x) (hown : x.own ≠ 0) (hT : T + 1 ≤ 900000) :
    Calls Try.prog 12 #[.pointer (some ⟨p, 0, none⟩), .int .i64 n, .int .i64 x.own] w fun e w' => e = .returned (.int .i64 0) ∧ Only (fun k => lo ≤ k ∧ k < hi) w w' ∧
      PL w' p fb ib cap mb (T + 1) N Q lo hi fbs (fs.set n ⟨x.own, x.hand + 1, x.mem⟩) l f := by
  have hok := h.books.ok n x hx
  have hbx := h.fr n b x hb hx
  have c1 := hbx.cell 1
  have y1 := hbx.frozen 1
  simp at c1
  have hwr : IntKind.i64.wrap (x.hand + 1) = x.hand + 1 := by rw [IntKind.wrap_i64]; omega
  have H := Lib.hid h
  have HB := Lib.hid hb
  have HX := Lib.hid hx
  have HBX := Lib.hid hbx
  have HOK := Lib.hid hok
  clear h hb hx hbx hok
  go_enter Try.func12, Try.ntmps12
  go_wp2_with fail
  refine (pof_ok n b x _ H.out HB.out HX.out hown).mono ?_
  rintro e w' ⟨rfl, rfl⟩
  go_wp2_with fail
  go_returns
  have ho : Only (fun k => k = b) w (w.setCell ⟨b, 1, none⟩ (.int .i64 (x.hand + 1))) := (Only.refl (fun k => k = b) w).setOf (o := 1) rfl _
  have hok := HOK.out
  refine ⟨rfl, ho.mono (fun k _ e => by have := H.out.infr n b HB.out; omega), ?_⟩
  exact H.out.hands (x.hand + 1) HB.out HX.out ho (by simpa using HBX.out.set_ 1 (.int .i64 (x.hand + 1))) (by omega) hT (by omega) (by omega) (by omega)

theorem prel_some (n b : Nat) (x : Fr) (w : World) (h : PL w p fb ib cap mb T N Q lo hi fbs fs l f) (hb : fbs[n]? = some b) (hx : fs[n]? = some x) (hown : x.own ≠ 0) (h2 : x.hand ≠ 1) :
    Calls Try.prog 13 #[.pointer (some ⟨p, 0, none⟩), .int .i64 n, .int .i64 x.own] w fun e w' => e = .returned (.int .i64 0) ∧ Only (fun k => lo ≤ k ∧ k < hi) w w' ∧
      PL w' p fb ib cap mb T N Q lo hi fbs (fs.set n ⟨x.own, x.hand - 1, x.mem⟩) l f := by
  have hok := h.books.ok n x hx
  have hT1 := h.T1
  have hbx := h.fr n b x hb hx
  have c1 := hbx.cell 1
  have y1 := hbx.frozen 1
  simp at c1
  have hwr : IntKind.i64.wrap (x.hand - 1) = x.hand - 1 := by rw [IntKind.wrap_i64]; omega
  have hz : (x.hand - 1 == 0) = false := by rw [beq_eq_false_iff_ne]; omega
  have H := Lib.hid h
  have HB := Lib.hid hb
  have HX := Lib.hid hx
  have HBX := Lib.hid hbx
  have HOK := Lib.hid hok
  clear h hb hx hbx hok
  go_enter Try.func13, Try.ntmps13
  go_wp2_with fail
  refine (pof_ok n b x _ H.out HB.out HX.out hown).mono ?_
  rintro e w' ⟨rfl, rfl⟩
  go_wp2_with fail
  go_returns
  have ho : Only (fun k => k = b) w (w.setCell ⟨b, 1, none⟩ (.int .i64 (x.hand - 1))) := (Only.refl (fun k => k = b) w).setOf (o := 1) rfl _
  have hok := HOK.out
  refine ⟨rfl, ho.mono (fun k _ e => by have := H.out.infr n b HB.out; omega), ?_⟩
  exact H.out.hands (x.hand - 1) HB.out HX.out ho (by simpa using HBX.out.set_ 1 (.int .i64 (x.hand - 1))) (by omega) (by omega) (by omega) (by omega) (by omega)

theorem prel_last (n b : Nat) (x : Fr) (w : World) (h : PL w p fb ib cap mb T N Q lo hi fbs fs l f) (hb : fbs[n]? = some b) (hx : fs[n]? = some x) (hown : x.own ≠ 0) (h2 : x.hand = 1) (hT : T + 1 ≤ 900000) :
    Calls Try.prog 13 #[.pointer (some ⟨p, 0, none⟩), .int .i64 n, .int .i64 x.own] w fun e w' => e = .returned (.int .i64 0) ∧ Only (fun k => lo ≤ k ∧ k < hi) w w' ∧
      ∃ l', PL w' p fb ib cap mb (T + 1) N Q lo hi fbs (fs.set n ⟨0, 0, x.mem⟩) l' (setAt f x.own (f x.own + -1)) := by
  have hbx := h.fr n b x hb hx
  have c1 := hbx.cell 1
  have y1 := hbx.frozen 1
  simp at c1
  rw [h2] at c1
  have H := Lib.hid h
  have HB := Lib.hid hb
  have HX := Lib.hid hx
  have HBX := Lib.hid hbx
  clear h hb hx hbx
  go_enter Try.func13, Try.ntmps13
  go_wp2_with fail
  refine (pof_ok n b x _ H.out HB.out HX.out hown).mono ?_
  rintro e w' ⟨rfl, rfl⟩
  go_wp2_with fail
  have ho : Only (fun k => k = b) w (w.setCell ⟨b, 1, none⟩ (.int .i64 0)) := (Only.refl (fun k => k = b) w).setOf (o := 1) rfl _
  refine (frees_ok n b x (.int .i64 0) w _ H.out HB.out HX.out hown ho (by simpa using HBX.out.set_ 1 (.int .i64 0)) hT).mono ?_
  rintro e w' ⟨⟨v, rfl⟩, ho2, l', hpl⟩
  have HP := Lib.hid hpl
  have HO := Lib.hid ho2
  have HO1 := Lib.hid ho
  clear hpl ho2 ho
  go_wp2_with fail
  go_returns
  exact ⟨rfl, (HO1.out.mono (fun k _ e => by have := H.out.infr n b HB.out; omega)).trans (HO.out.mono (fun k _ e => H.out.few HB.out k e)), l', HP.out⟩
end
end Go.Proofs.Ytjfbanemjceimaa

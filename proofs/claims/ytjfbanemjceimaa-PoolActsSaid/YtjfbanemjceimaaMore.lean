/- An owner has so many frames more. -/
import Derived.Test.YtjfbanemjceimaaHm
namespace Go.Proofs.Ytjfbanemjceimaa
open Go.RowKit Go.Maps
set_option linter.unusedVariables false
set_option linter.unusedSimpArgs false
set_option linter.unnecessarySimpa false

set_option maxHeartbeats 1000000 in
theorem more_ok (p mb T : Nat) (f : Int → Int) (fr sl q : Value) (o d s : Int) (w : World) (hb : Blk w p 30 #[fr, sl, .map (some mb), q]) (hm : HM w mb T f) (hT : T < 1000000) (h1 : -9223372036854775808 ≤ o) (h2 : o ≤ 9223372036854775807)
    (hd : f o + d = s) (hs1 : -1000000 ≤ s) (hs2 : s ≤ 1000000) :
    Calls Try.prog 30 #[.pointer (some ⟨p, 0, none⟩), .int .i64 o, .int .i64 d] w fun e w' => (∃ v, e = .returned v) ∧ HM w' mb (T + 1) (setAt f o s) ∧ Only (fun k => k = mb) w w' := by
  have k2 := hb.cell 2
  simp at k2
  have hlp := hb.lt
  have hlm := hm.lt
  have hpm : p ≠ mb := by
    intro e
    subst e
    obtain ⟨n, D, _, ⟨es, clock, hb', _⟩, _⟩ := hm
    unfold Blk at hb
    rw [hb] at hb'
    cases hb'
  have hlook := hm.look h1 h2
  obtain ⟨g, hg⟩ : ∃ g, f o = g := ⟨_, rfl⟩
  rw [hg] at hd hlook
  have HB := Lib.hid hb
  have HM_ := Lib.hid hm
  have HG := Lib.hid hg
  have hgd : IntKind.i64.wrap (g + d) = s := by rw [hd, IntKind.wrap_i64]; omega
  clear hb hm hg hd
  by_cases hz : s = 0
  · subst hz
    have ha : Only (fun k => k = mb) w (w.alloc (.cells #[.int .i64 0] 60)) := (Only.refl _ w).alloc _
    obtain ⟨w1, hdel, hm1, ho1⟩ := (HM_.out.keep ((Only.refl (fun _ => False) w).alloc (.cells #[.int .i64 0] 60)) (fun f => f)).drop h1 h2 0
    have HM1 := Lib.hid hm1
    have HO1 := Lib.hid (ha.trans ho1)
    clear hm1 ho1 ha
    go_enter Try.func30, Try.ntmps30
    go_wp2_with fail
    go_returns
    obtain ⟨n, D, h3, h4, h5⟩ := HM1.out
    exact ⟨⟨_, rfl⟩, ⟨n, D, by omega, h4, h5⟩, HO1.out⟩
  · have hz' : (s == 0) = false := by rw [beq_eq_false_iff_ne]; exact hz
    have ha : Only (fun k => k = mb) w (w.alloc (.cells #[.int .i64 s] 60)).drew := ((Only.refl _ w).alloc _).drew
    obtain ⟨w1, hupd, hm1, ho1⟩ := (HM_.out.keep (((Only.refl (fun _ => False) w).alloc (.cells #[.int .i64 s] 60)).drew) (fun f => f)).store hT s h1 h2
    have HM1 := Lib.hid hm1
    have HO1 := Lib.hid (ha.trans ho1)
    clear hm1 ho1 ha
    go_enter Try.func30, Try.ntmps30
    go_wp2_with fail
    go_region
    go_wp2_with fail
    go_end0
    exact ⟨⟨_, rfl⟩, HM1.out, HO1.out⟩
end Go.Proofs.Ytjfbanemjceimaa

/- The law OutboxScript: the walk. -/
import Derived.Deep.Cut
import Derived.Deep.CutRange
import Derived.Deep.CutBlock
import Derived.Deep.DeepCutAuto
import Derived.Deep.Light
import Derived.Test.YtoohkcboidamnaaRefP
import Derived.Test.YtoohkcboidamnaaObQ
namespace Go.Proofs.Ytoohkcboidamnaa
open Go.RowKit
set_option linter.unusedVariables false
set_option linter.unusedSimpArgs false
set_option linter.unnecessarySimpa false

theorem only_grownBy {w w' : World} {b : Nat} (h : Only (fun k => k = b) w w') : w.grownBy w' (some b) := ⟨h.os, h.tape, h.output, h.size, fun k hk hn => h.block k hk (fun e => hn (by rw [e]))⟩

theorem own_drewN {w : World} {base : Nat} {e : TypeId} {size : Nat} {v : Value} {n : Nat} {xs : List Value} (h : w.ownsRow base e size v n xs) (q : Nat) : (w.drewN q).ownsRow base e size v n xs := h

/-- A call that is asked for: its kind, its item. -/
structure Ac where
  kind : Int
  it : It

/-- The list at A reads as these calls. -/
def Acts (w : World) (A : Option Addr) (acts : List Ac) : Prop :=
  acts ≠ [] → ∃ g off, A = some ⟨g, off, none⟩ ∧ g < w.heap.size ∧ ∀ i a, acts[i]? = some a → w.cell? ⟨g, off + i * 5, none⟩ = some (.int .i64 a.kind) ∧
    w.cell? ⟨g, off + i * 5 + 1, none⟩ = some (.int .i64 a.it.a) ∧ w.cell? ⟨g, off + i * 5 + 2, none⟩ = some (.int .i64 a.it.b) ∧ w.cell? ⟨g, off + i * 5 + 3, none⟩ = some (.int .i64 a.it.c) ∧ w.cell? ⟨g, off + i * 5 + 4, none⟩ = some (.int .i64 a.it.d)

theorem Acts.keep {w w' : World} {A : Option Addr} {acts : List Ac} (h : Acts w A acts) (ho : Kept w w') : Acts w' A acts := by
  intro hne
  obtain ⟨g, off, h1, h2, h3⟩ := h hne
  refine ⟨g, off, h1, Nat.lt_of_lt_of_le h2 ho.size, fun i x hx => ?_⟩
  obtain ⟨a0, a1, a2, a3, a4⟩ := h3 i x hx
  exact ⟨kept_cell ho a0, kept_cell ho a1, kept_cell ho a2, kept_cell ho a3, kept_cell ho a4⟩

set_option maxHeartbeats 4000000 in
set_option maxRecDepth 100000 in
theorem script_calls (most : Int) (A : Option Addr) (acts : List Ac) (n cap : Nat) (w : World) (hn : acts.length = n) (hm : n ≤ 9223372036854775807) (ha : Acts w A acts) :
    Calls Try.prog 4 #[.int .i64 most, .slice A n cap] w fun e w' => e = .returned (.bool true) ∧ Kept w w' := by
  have HN := Lib.hid hn
  have HA := Lib.hid ha
  clear hn ha
  by_cases hr : most < 1 ∨ 1000 < most
  · go_enter Try.func4, Try.ntmps4
    go_wp2_with (first | (go_at_call 10; refine (new_no most _ hr).mono ?_; rintro e w' ⟨rfl, rfl⟩) | (go_at_call 16; refine (rnew_no most _ hr).mono ?_; rintro e w' ⟨rfl, rfl⟩))
    refine (awake_calls _).mono ?_
    rintro e w1 ⟨rfl, hk1⟩
    go_wp2_with fail
    go_ret
    exact ⟨rfl, hk1⟩
  · obtain ⟨m, hm'⟩ := Int.eq_ofNat_of_zero_le (show (0 : Int) ≤ most by omega)
    have bm : 1 ≤ m := by omega
    have bm2 : m ≤ 1000 := by omega
    have HM := Lib.hid hm'
    clear hm' hr
    go_enter Try.func4, Try.ntmps4
    go_wp2_with fail
    refine (new_at m most _ HM.out bm bm2).mono ?_
    rintro e w1 ⟨b, r, ring, rfl, ho1, hb, hr, hk1⟩
    have HO1 := Lib.hid ho1
    have lb := ho1.box.lt
    have lr := ho1.row.lt
    clear ho1
    go_wp2_with fail
    refine (rnew_at m w1.heap.size most _ HM.out bm bm2 (Nat.le_refl _)).mono ?_
    rintro e w2 ⟨b', rfl, hr2, hb2, hk2⟩
    have HB := Lib.hid (show Both w2 b r m 0 0 ring b' none 0 w1.heap.size [] from ⟨HO1.out.keep hk2 (fun f => f) (fun f => f), hr2, lb, lr, hk2.size⟩)
    have HK := Lib.hid (hk1.trans hk2)
    have HA2 := Lib.hid (HA.out.keep (hk1.trans hk2))
    clear hr2 hk1 hk2
    by_cases hbig : 100 < n
    · go_wp2_with fail
      refine (awake_calls _).mono ?_
      rintro e w3 ⟨rfl, hk3⟩
      go_wp2_with fail
      go_ret
      exact ⟨rfl, HK.out.trans hk3⟩
    · go_wp2_with fail
      have hno : ∀ k, k < w2.heap.size → (k = b ∨ k = r ∨ w1.heap.size ≤ k) → w.heap.size ≤ k := by intro k _ h; have := HK.out.size; omega
      have HNO := Lib.hid hno
      clear hno
      go_loopw [9] (fun v wr => ∃ (k c g cp : Nat) (rg : Array Value) (A' : Option Addr) (its : List It), v = .int .i64 k ∧ k ≤ n ∧ c ≤ k ∧ Both wr b r m c g rg b' A' cp w1.heap.size its ∧ Kept w wr) (fun v _ => n - (intOf v).toNat)
      case atStart => exact ⟨0, 0, 0, 0, ring, none, [], rfl, by omega, by omega, HB.out, HK.out⟩
      case round =>
        obtain ⟨k, c, g, cp, rg, A', its, rfl, hk, hck, hBo, hkp⟩ := hrel
        have H1 := Lib.hid hBo
        have K1 := Lib.hid hkp
        clear hBo hkp
        by_cases hlt : k < n
        · obtain ⟨a, ha⟩ : ∃ a, acts[k]? = some a := ⟨_, List.getElem?_eq_getElem (by rw [HN.out]; exact hlt)⟩
          have hne : acts ≠ [] := by rintro rfl; simp at ha
          obtain ⟨lg, off, rfl, hlg, hcells⟩ := HA.out hne
          obtain ⟨a0, a1, a2, a3, a4⟩ := hcells k a ha
          replace a0 := kept_cell K1.out a0
          replace a1 := kept_cell K1.out a1
          replace a2 := kept_cell K1.out a2
          replace a3 := kept_cell K1.out a3
          replace a4 := kept_cell K1.out a4
          have hlb : ¬ (lg = b ∨ lg = r) := by omega
          obtain ⟨kd, x⟩ := a
          simp only [] at a0 a1 a2 a3 a4
          clear hcells ha hne
          have HLB := Lib.hid hlb
          clear hlb
          go_upto_block 2 with (fail)
          go_cut [10, 11, 12, 13, 14] (fun _ _ _ _ _ wx => ∃ (c g cp : Nat) (rg : Array Value) (A' : Option Addr) (its : List It), c ≤ k + 1 ∧ Both wx b r m c g rg b' A' cp w1.heap.size its ∧ Kept w wx)
          case first =>
            have hb1 := H1.out.hb
            have hr1 := H1.out.hr
            have hlo := H1.out.hlo
            have hb'' := H1.out.rb.lo_
            have hfit := H1.out.ob.fits
            by_cases hpush : kd = 0 ∨ kd = 1 ∨ kd = 2
            · by_cases hroom : its.length < m
              · rcases hpush with rfl | rfl | rfl
                all_goals
                  go_wp2_with fail
                  go_region_with (first | (go_at_call 11; refine (push_ok b r m c g its rg x.a x.b x.c x.d _ ?_ (by omega) hroom).mono ?_; exact H1.out.ob.drew; rintro e w3 ⟨rfl, ho3, hk3⟩; have H3 := Lib.hid ho3; have HR3 := Lib.hid ((H1.out.rb.drewN 1).keep hk3 (fun q hq hl h => by omega)); have HK3 := Lib.hid hk3; have HL3 : Hid (w1.heap.size ≤ w3.heap.size) := Lib.hid (Nat.le_trans hlo hk3.size); replace a0 := only_cell hk3 a0 HLB.out; replace a1 := only_cell hk3 a1 HLB.out; replace a2 := only_cell hk3 a2 HLB.out; replace a3 := only_cell hk3 a3 HLB.out; replace a4 := only_cell hk3 a4 HLB.out; clear ho3 hk3) | (go_at_call 17; refine (rpush_ok b' w1.heap.size m c cp A' its x.a x.b x.c x.d _ HR3.out hroom (by omega) HL3.out).mono ?_; rintro e w4 ⟨rfl, A4, cp4, hr4, hk4⟩; have HR4 := Lib.hid hr4; have HK4 := Lib.hid hk4; clear hr4 hk4))
                  all_goals
                    go_wp2_with fail
                    go_meet
                    case rel =>
                      refine ⟨c + 1, g, cp4, _, A4, _, by omega, ⟨H3.out.keep HK4.out (by omega) (by omega), HR4.out, hb1, hr1, Nat.le_trans HL3.out HK4.out.size⟩, ?_⟩
                      exact (K1.out.drew.trans' HK3.out (fun q hq h => by omega)).trans' HK4.out (fun q hq h => by omega)
              · have hfull : its.length = m := by omega
                rcases hpush with rfl | rfl | rfl
                all_goals
                  go_wp2_with fail
                  go_region_with (first | (go_at_call 11; refine (push_full b r m c g its rg x.a x.b x.c x.d _ ?_ (by omega) hfull).mono ?_; exact H1.out.ob.drew; rintro e w3 ⟨rfl, hk3⟩; have HR3 := Lib.hid ((H1.out.rb.drewN 1).keep hk3 (fun q hq hl h => h)); have HK3 := Lib.hid hk3; replace a0 := kept_cell hk3 a0; replace a1 := kept_cell hk3 a1; replace a2 := kept_cell hk3 a2; replace a3 := kept_cell hk3 a3; replace a4 := kept_cell hk3 a4; clear hk3) | (go_at_call 17; refine (rpush_full b' w1.heap.size m c cp A' its x.a x.b x.c x.d _ HR3.out hfull).mono ?_; rintro e w4 ⟨rfl, hk4⟩; have HK4 := Lib.hid hk4; clear hk4))
                  all_goals
                    go_wp2_with fail
                    go_meet
                    case rel =>
                      have hkk : Kept wr w4 := Only.trans (b := wr.drew) ((Only.refl _ wr).drew) (HK3.out.trans HK4.out)
                      exact ⟨c, g, cp, rg, A', its, by omega, H1.out.kept hkk, K1.out.trans hkk⟩
            · have h0 : (kd == 0) = false := by simp; omega
              have h1 : (kd == 1) = false := by simp; omega
              have h2 : (kd == 2) = false := by simp; omega
              clear hpush
              by_cases hpop : kd = 3 ∨ kd = 4
              · cases its with
                | nil =>
                  rcases hpop with rfl | rfl
                  all_goals
                    go_wp2_with fail
                    refine (pop_empty b r m c g rg _ H1.out.ob (by omega)).mono ?_
                    rintro e w3 ⟨rfl, hk3⟩
                    have B3 := Lib.hid ((H1.out.kept hk3).kept ((Only.refl _ w3).alloc (.cells #[.int .i64 0, .int .i64 0, .int .i64 0, .int .i64 0] 30)))
                    have P3 := Lib.hid (Blk.new w3 30 #[.int .i64 0, .int .i64 0, .int .i64 0, .int .i64 0])
                    have HK3 := Lib.hid hk3
                    clear hk3
                    go_wp2_with fail
                    refine (rpop_empty b' w1.heap.size m c cp A' _ B3.out.rb).mono ?_
                    rintro e w4 ⟨rfl, hk4⟩
                    have e0 := (hk4.blk P3.out (fun f => f)).cell 0
                    have e1 := (hk4.blk P3.out (fun f => f)).cell 1
                    have e2 := (hk4.blk P3.out (fun f => f)).cell 2
                    have e3 := (hk4.blk P3.out (fun f => f)).cell 3
                    simp at e0 e1 e2 e3
                    have hl4 := cell_lt e0
                    simp only [] at hl4
                    have HK4 := Lib.hid hk4
                    clear hk4
                    go_wp2_with fail
                    go_meet
                    case rel =>
                      have hkk := (HK3.out.trans (((Only.refl _ w3).alloc _).trans HK4.out)).alloc (.cells #[.int .i64 0, .int .i64 0, .int .i64 0, .int .i64 0] 30)
                      exact ⟨c, g, cp, rg, A', [], by omega, H1.out.kept hkk, K1.out.trans hkk⟩
                | cons y l =>
                  rcases hpop with rfl | rfl
                  all_goals
                    go_wp2_with fail
                    refine (pop_ok b r m c g y l rg _ H1.out.ob (by omega)).mono ?_
                    rintro e w3 ⟨rfl, ho3, hk3⟩
                    have O3 := Lib.hid (ho3.alloc (.cells #[.int .i64 y.a, .int .i64 y.b, .int .i64 y.c, .int .i64 y.d] 30))
                    have R3 := Lib.hid ((H1.out.rb.keep hk3 (fun q hq hl h => by omega)).alloc (.cells #[.int .i64 y.a, .int .i64 y.b, .int .i64 y.c, .int .i64 y.d] 30))
                    have P3 := Lib.hid (Blk.new w3 30 #[.int .i64 y.a, .int .i64 y.b, .int .i64 y.c, .int .i64 y.d])
                    have HL3 := Nat.le_trans hlo hk3.size
                    have hne3 : w3.heap.size ≠ b' := by have := (H1.out.rb.keep hk3 (fun q hq hl h => by omega)).box.lt; omega
                    have HK3 := Lib.hid hk3
                    clear hk3 ho3
                    go_wp2_with fail
                    refine (rpop_ok b' w1.heap.size m c cp A' y l _ R3.out).mono ?_
                    rintro e w4 ⟨rfl, A4, cp4, hr4, hk4⟩
                    have e0 := (hk4.blk P3.out hne3).cell 0
                    have e1 := (hk4.blk P3.out hne3).cell 1
                    have e2 := (hk4.blk P3.out hne3).cell 2
                    have e3 := (hk4.blk P3.out hne3).cell 3
                    simp at e0 e1 e2 e3
                    have hl4 := cell_lt e0
                    simp only [] at hl4
                    have HK4 := Lib.hid hk4
                    have R4 := Lib.hid hr4
                    clear hk4 hr4
                    go_wp2_with fail
                    go_meet
                    case rel =>
                      refine ⟨c, g + 1, cp4, rg, A4, l, by omega, ⟨(O3.out.keep HK4.out (by omega) (by omega)).alloc _, R4.out.alloc _, hb1, hr1, by simp; omega⟩, ?_⟩
                      exact ((K1.out.trans' HK3.out (fun q hq h => by omega)).trans' (((Only.refl (fun k => k = b') w3).alloc _).trans HK4.out) (fun q hq h => by omega)).alloc _
              · have h3 : (kd == 3) = false := by simp; omega
                have h4 : (kd == 4) = false := by simp; omega
                clear hpop
                by_cases hclear : kd = 5
                · subst hclear
                  clear h0 h1 h2 h3 h4
                  go_wp2_with fail
                  refine (clear_calls b r m c g its rg (by omega) _ H1.out.ob).mono ?_
                  rintro e w3 ⟨A7, c7, rfl, hr7, ho3, hk3, _⟩
                  have O3 := Lib.hid ho3
                  have R3 := Lib.hid (H1.out.rb.keep hk3 (fun q hq hl h => by omega))
                  have HK3 := Lib.hid hk3
                  have hltb := H1.out.rb.box.lt
                  have hltx := H1.out.ob.box.lt
                  have hltr := H1.out.ob.row.lt
                  have R7 := Lib.hid hr7
                  clear hr7 ho3 hk3
                  go_wp2_with fail
                  refine (rclear_ok b' w1.heap.size m c cp A' its _ R3.out).mono ?_
                  rintro e w4 ⟨rfl, hr4, hk4⟩
                  have S7 := Lib.hid (Sl.of_own (R7.out.kept (row := some b') (only_grownBy hk4) (own_apart R7.out R3.out.box)))
                  have R7' := Lib.hid (R7.out.kept (row := some b') (only_grownBy hk4) (own_apart R7.out R3.out.box))
                  have S4 := Lib.hid (R3.out.sl_far hk4)
                  have R4 := Lib.hid hr4
                  have HK4 := Lib.hid hk4
                  clear hr4 hk4
                  have hb1000 : its.length ≤ 1073741824 := by have := H1.out.ob.hi; omega
                  go_wp2_with fail
                  refine (same_items A7 A' its.length c7 cp its _ rfl hb1000 S7.out S4.out).mono ?_
                  rintro e w5 ⟨rfl, q5, rfl⟩
                  go_wp2_with fail
                  refine (over_items wr.heap.size A7 its.length c7 _ _ hb1000 (own_drewN R7'.out q5)).mono ?_
                  rintro e w6 ⟨rfl, hk6⟩
                  have HK6 := Lib.hid hk6
                  clear hk6
                  go_wp2_with fail
                  go_meet
                  case rel =>
                    have hk45 : Only (fun k => k = b') w3 (w4.drewN q5) := HK4.out.drewN q5
                    refine ⟨c, c, 0, rg, none, [], by omega, ⟨((O3.out.keep hk45 (by omega) (by omega)).keep HK6.out (by omega) (by omega)), ⟨HK6.out.blk (R4.out.box.drewN q5) (by omega), ⟨by simp, .inl ⟨rfl, rfl⟩⟩, hb'', by simp, R4.out.hi⟩, hb1, hr1, ?_⟩, ?_⟩
                    · exact Nat.le_trans hlo (Nat.le_trans HK3.out.size (Nat.le_trans hk45.size HK6.out.size))
                    · exact ((K1.out.trans' HK3.out (fun q hq h => by omega)).trans' hk45 (fun q hq h => by omega)).trans' HK6.out (fun q hq h => by have := K1.out.size; omega)
                · have h5 : (kd == 5) = false := by simp; omega
                  clear hclear
                  go_wp2_with fail
                  go_meet
                  case rel => exact ⟨c, g, cp, rg, A', its, by omega, H1.out, K1.out⟩
          case rest =>
            obtain ⟨c2, g2, cp2, rg2, A2, its2, hc2, hBo2, hkp2⟩ := hcut
            have H2 := Lib.hid hBo2
            have K2 := Lib.hid hkp2
            clear hBo2 hkp2
            go_wp2_with fail
            refine (alike_calls b r m c2 g2 b' cp2 w1.heap.size rg2 A2 its2 _ H2.out (by omega)).mono ?_
            rintro e w7 ⟨rfl, hk7⟩
            have HK7 := Lib.hid hk7
            clear hk7
            go_wp2_with fail
            go_roundw
            case rel =>
              exact ⟨k + 1, c2, g2, cp2, rg2, A2, its2, by go_num, by omega, hc2, H2.out.kept HK7.out, K2.out.trans HK7.out⟩
            case measure => simp [intOf]; omega
        · go_wp2_with fail
          refine (alike_calls b r m c g b' cp w1.heap.size rg A' its _ H1.out (by omega)).mono ?_
          rintro e w4 ⟨rfl, hk4⟩
          go_wp2_with fail
          refine (awake_calls _).mono ?_
          rintro e w5 ⟨rfl, hk5⟩
          go_wp2_with fail
          go_ret
          exact ⟨rfl, (K1.out.trans hk4).trans hk5⟩

end Go.Proofs.Ytoohkcboidamnaa

/- The iterator over an outbox's items, and the loop that collects them. -/
import Derived.RangeFuncNested
import Derived.RangeFuncBound
import Derived.RangeFuncCalls
import Derived.RangeFuncLeaves
import Derived.Shelf.Abstract
import Derived.Shelf.RegionOpen
import Derived.OwnWalkIn
import Derived.TacticsInMore
import Derived.LoopNIn
import Derived.LoopIn
import Derived.Maps.AppendAt
import Derived.Test.YtoohkcboidamnaaObN
namespace Go.Proofs.Ytoohkcboidamnaa
open Go.RowKit Go.Shelf
set_option linter.unusedVariables false
set_option linter.unusedSimpArgs false
set_option linter.unnecessarySimpa false
attribute [local go_sem] Oper.semAt_some

theorem OB.below {w w' : World} {n₀ b r m c g : Nat} {l : List It} {ring : Array Value} (h : OB w b r m c g l ring) (hw : Below n₀ w w') (hb : b < n₀) (hr : r < n₀) : OB w' b r m c g l ring :=
  ⟨h.box.below hw hb, h.row.below hw hr, h.size, h.came, h.fits, h.lo, h.hi, h.at_⟩

set_option maxRecDepth 100000 in
set_option maxHeartbeats 2000000 in
theorem items1_in (l Bn n₀ b r m c g : Nat) (its : List It) (ring : Array Value) (J Jx : List It → World → Prop) (hc : c ≤ 1073741824) (hb : b < n₀) (hr : r < n₀) (hBn : Bn < n₀)
    (W : World) (hJ : AbidesFrom W.heap.size J)
    (hY : ∀ pre x W, J pre W → pre.length < its.length → YieldAt Fence.wide 2 Try.prog l #[.agg #[.int .i64 x.a, .int .i64 x.b, .int .i64 x.c, .int .i64 x.d]] W fun e W' =>
      (e = .returned (.bool true) ∧ J (pre ++ [x]) W' ∧ Below n₀ W W') ∨ (e = .returned (.bool false) ∧ Jx (pre ++ [x]) W'))
    (hB : W.cell? ⟨Bn, 0, none⟩ = some (.pointer (some ⟨b, 0, none⟩))) (hO : OB W b r m c g its ring) (h0 : J [] W) :
    CallsIn Fence.wide 3 Try.prog 32 #[.func (.yield l) #[] #[], .pointer (some ⟨Bn, 0, none⟩)] W fun e W' => (∃ v, e = .returned v) ∧
      ((∃ ys, ys = its ∧ J ys W') ∨ (∃ pre, pre <+: its ∧ Jx pre W')) := by
  have k2 := hO.box.cell 2
  simp at k2
  have hcame := hO.came
  have hlo := hO.lo
  have hhi := hO.hi
  have HC := Lib.hid hcame
  have hF29 : Fence.wide.fn 29 := trivial
  have hgc : g ≤ c := by omega
  clear hcame
  refine callsIn_of_wp Try.func32 rfl trivial ?_ rfl
  simp only [Try.ntmps32, List.size_toArray, List.length_cons, List.length_nil, Nat.reduceAdd, Nat.reduceSub, Array.replicate_succ, Array.replicate_zero, List.push_toArray, List.append_toArray, List.nil_append, List.cons_append]
  gi_wp2
  gi_loopw [3] (fun p wr => ∃ (pre rest : List It) (k : Nat), p = .int .i64 k ∧ k = g + pre.length ∧ its = pre ++ rest ∧ wr.cell? ⟨Bn, 0, none⟩ = some (.pointer (some ⟨b, 0, none⟩)) ∧ OB wr b r m c g its ring ∧ J pre wr)
    (fun p wr => c - (intOf p).toNat)
  case atStart =>
    exact ⟨[], its, g, rfl, rfl, rfl, hB, hO, h0⟩
  case round =>
    obtain ⟨pre, rest, k, rfl, hk, hx, hcB, hO1, hJs⟩ := hrel
    have HK := Lib.hid hk
    have HX := Lib.hid hx
    have hO2 := Lib.hid hO1
    have k1 := hO1.box.cell 1
    simp at k1
    cases rest with
    | nil =>
      have hkc : ¬ k < c := by have h1 := HC.out; have h2 := HX.out; have h3 := HK.out; rw [h2] at h1; simp at h1; omega
      clear hx hk hO1
      gi_wp2
      refine ⟨fun _ h => (by cases h), ?_⟩
      gi_wp2
      go_end0
      exact ⟨⟨_, rfl⟩, .inl ⟨pre, by have := HX.out; simp at this; exact this.symm, hJs⟩⟩
    | cons x rest =>
      have hkc : k < c := by have h1 := HC.out; have h2 := HX.out; have h3 := HK.out; rw [h2] at h1; simp at h1; omega
      have hat := hO1.at_ pre.length x (by rw [hx]; simp)
      rw [← hk] at hat
      obtain ⟨f0, f1, f2, f3⟩ := hat
      rw [← hO1.row.cell] at f0 f1 f2 f3
      have hkm : k % m < m := Nat.mod_lt _ (by omega)
      have hlen : pre.length < its.length := by rw [hx]; simp
      have hsz := hJs
      clear hx hk hO1
      gi_wp2_with (gi_at_call 29; refine (callsIn_wide.2 (place_made b r m c g k _ hlo hhi (by omega) hO2.out.box)).mono ?_; rintro e w' ⟨rfl, n1, rfl⟩)
      have hJ1 : J pre (wr.drewN n1) := hJ pre wr _ none hJs (by exact ⟨rfl, rfl, rfl, Nat.le_refl _, fun _ _ _ => rfl⟩) (by intro _ h; cases h)
      have hO3 := Lib.hid (hO2.out.drewN n1)
      have hcB1 : (wr.drewN n1).cell? ⟨Bn, 0, none⟩ = some (.pointer (some ⟨b, 0, none⟩)) := hcB
      obtain ⟨fn, tmps, assign, body, hy, hR⟩ := hY pre x (wr.drewN n1) hJ1 hlen
      rw [hy]
      gi_wp2
      refine hR.mono ?_
      rintro e W3 (⟨rfl, hJ3, hk3⟩ | ⟨rfl, hJx3⟩)
      · have hO4 := Lib.hid (OB.below hO3.out hk3 hb hr)
        have hcB3 : W3.cell? ⟨Bn, 0, none⟩ = some (.pointer (some ⟨b, 0, none⟩)) := (hk3.cell (p := ⟨Bn, 0, none⟩) hBn).trans hcB1
        gi_wp2
        go_roundw
        case rel => exact ⟨pre ++ [x], rest, k + 1, by go_num, by have := HK.out; simp; omega, by have := HX.out; simp [this], hcB3, hO4.out, hJ3⟩
        case measure => simp [intOf]; omega
      · gi_wp2
        go_end0
        exact ⟨⟨_, rfl⟩, .inr ⟨pre ++ [x], ⟨rest, by have := HX.out; simp [this]⟩, hJx3⟩⟩

/-- What the iterator hands on. -/
abbrev encIt (x : It) : Array Value := #[.agg #[.int .i64 x.a, .int .i64 x.b, .int .i64 x.c, .int .i64 x.d]]

theorem items_stops (Bn b r m c g : Nat) (its : List It) (ring : Array Value) (hc : c ≤ 1073741824) (w : World) (hb : b < w.heap.size) (hr : r < w.heap.size) (hBn : Bn < w.heap.size)
    (hB : w.cell? ⟨Bn, 0, none⟩ = some (.pointer (some ⟨b, 0, none⟩))) (hO : OB w b r m c g its ring) :
    SeqStopsK Fence.wide 3 Try.prog 32 #[.pointer (some ⟨Bn, 0, none⟩)] encIt (Below w.heap.size) (fun ys => ys = its) (fun pre => pre <+: its) its.length w := fun l J Jx W hW hJ _ hY h0 =>
  items1_in l Bn w.heap.size b r m c g its ring J Jx hc hb hr hBn W hJ hY ((hW.cell (p := ⟨Bn, 0, none⟩) hBn).trans hB) (hO.below hW hb hr) h0

theorem items_calls (b : Nat) (w : World) :
    Calls Try.prog 31 #[.pointer (some ⟨b, 0, none⟩)] w fun e w' => e = .returned (.func (.func 32) #[] #[.pointer (some ⟨w.heap.size, 0, none⟩)]) ∧ w.alloc (.cells #[.pointer (some ⟨b, 0, none⟩)] 24) = w' := by
  go_enter Try.func31, Try.ntmps31
  go_wp2
  go_ret
  exact ⟨rfl, rfl⟩

theorem cells_four_new (w : World) (x : It) (t : TypeId) : ∀ j u, x.cells[j]? = some u → (w.alloc (.cells #[.int .i64 x.a, .int .i64 x.b, .int .i64 x.c, .int .i64 x.d] t)).cell? ((⟨w.heap.size, 0, none⟩ : Addr).add j) = some u := by
  intro j u hj
  have h := (Blk.new w t #[.int .i64 x.a, .int .i64 x.b, .int .i64 x.c, .int .i64 x.d]).cell j
  rw [Addr.add_lit, Nat.zero_add, h]
  rw [← hj]
  simp [It.cells]

theorem four_oneCell (x : It) : ∀ u ∈ x.cells, u.oneCell' = true := by
  intro u hu
  simp [It.cells] at hu
  rcases hu with rfl | rfl | rfl | rfl <;> rfl

theorem cells_length (l : List It) : (l.flatMap It.cells).length = l.length * 4 := by
  induction l with
  | nil => rfl
  | cons x l ih => simp [It.cells, ih]; omega

theorem ownsRow_form {w : World} {base : Nat} {e : TypeId} {size : Nat} {v : Value} {n : Nat} {xs : List Value} (h : w.ownsRow base e size v n xs) : ∃ A c, v = .slice A n c := by
  rcases h.2 with ⟨rfl, rfl⟩ | ⟨g, cap, cur, rfl, _⟩
  · exact ⟨_, _, rfl⟩
  · exact ⟨_, _, rfl⟩

theorem ownsRow_base {w : World} {base base' : Nat} {e : TypeId} {size : Nat} {v : Value} {n : Nat} {xs : List Value} (h : w.ownsRow base e size v n xs) (hb : base' ≤ base) : w.ownsRow base' e size v n xs := by
  refine ⟨h.1, ?_⟩
  rcases h.2 with h2 | ⟨g, cap, cur, h1, h2, h3⟩
  · exact .inl h2
  · exact .inr ⟨g, cap, cur, h1, by omega, h3⟩

theorem grownBy_cell (W : World) (b o : Nat) (v : Value) : W.grownBy (W.setCell ⟨b, o, none⟩ v) (some b) :=
  ⟨rfl, rfl, rfl, by simp [World.setCell], fun k _ hk => Below.heap_setCell _ _ _ k (fun e => hk (by rw [e]))⟩

theorem blk_kept {W W' : World} {row : Option Nat} {g : Nat} {t : TypeId} {cs : Array Value} (h : Blk W g t cs) (hg : W.grownBy W' row) (hr : ∀ r, row = some r → ∃ o : Obj, W.heap[r]? = some o ∧ o.isCells = false) : Blk W' g t cs :=
  (hg.block g h.lt (fun e => by
    obtain ⟨o, ho, hc⟩ := hr g e.symm
    unfold Blk at h
    rw [h] at ho
    cases ho
    cases hc)).trans h

set_option maxRecDepth 100000 in
set_option maxHeartbeats 2000000 in
theorem listed_in (Bn b r m c g : Nat) (its : List It) (ring : Array Value) (hc : c ≤ 1073741824) (w : World) (hb : b < w.heap.size) (hr : r < w.heap.size) (hBn : Bn < w.heap.size)
    (hB : w.cell? ⟨Bn, 0, none⟩ = some (.pointer (some ⟨b, 0, none⟩))) (hO : OB w b r m c g its ring) :
    CallsIn Fence.wide 4 Try.prog 30 #[.func (.func 32) #[] #[.pointer (some ⟨Bn, 0, none⟩)]] w fun e W' => ∃ v, e = .returned v ∧ W'.ownsRow w.heap.size 30 4 v its.length (its.flatMap It.cells) ∧ Below w.heap.size w W' ∧ (its = [] → v = .slice none 0 0) := by
  obtain ⟨i0, hi, hz0, hz1, hz2⟩ := info_parts Try.info30
  have hstops := items_stops Bn b r m c g its ring hc w hb hr hBn hB hO
  have hfit := hO.fits
  have hhi := hO.hi
  refine callsIn_of_wp_marks Try.func30 rfl trivial ?_ rfl
  simp only [Try.ntmps30, List.size_toArray, List.length_cons, List.length_nil, Nat.reduceAdd, Nat.reduceSub, Array.replicate_succ, Array.replicate_zero, List.push_toArray, List.append_toArray, List.nil_append, List.cons_append]
  gi_wp2
  have bO := Boxed.new w 42 (.slice none 0 0)
  have hB0 : Below w.heap.size w (w.alloc (.cells #[.slice none 0 0] 42)) := (Below.refl _ w).alloc (Nat.le_refl _) _
  refine wpIn_rangeFunc_ownH rfl (by omega) (gf := 32) (lb := #[.pointer (some ⟨Bn, 0, none⟩)]) rfl trivial (enters_of Try.func32 (by kernel_rfl) rfl)
    hstops belowK_t (belowK_b (by simp)) hB0 (fun _ => rfl)
    (fun (pre : List It) W => (∃ v, Boxed W w.heap.size 42 v ∧ W.ownsRow w.heap.size 30 4 v pre.length (pre.flatMap It.cells) ∧ (pre = [] → v = .slice none 0 0)) ∧ Below w.heap.size w W)
    (fun _ _ _ => False)
    (OwnFrom.and (Own.from (holdsRow_own w.heap.size w.heap.size 42 30 4 (fun pre : List It => pre.length) (fun pre : List It => pre.flatMap It.cells) (fun pre v => pre = [] → v = .slice none 0 0)) _) (ownFrom_below (Nat.le_refl _) (by simp)))
    (fun _ _ _ _ _ hs _ _ => hs)
    ⟨⟨_, bO, World.ownsRow_nil _ _ _ _, fun _ => rfl⟩, hB0⟩
    (fun x a' W => ∃ Bx, w.heap.size < Bx ∧ Blk W Bx 30 #[.int .i64 x.a, .int .i64 x.b, .int .i64 x.c, .int .i64 x.d] ∧
      a' = { tmps := #[.func (.func 32) #[] #[.pointer (some ⟨Bn, 0, none⟩)], undef, .pointer (some ⟨w.heap.size, 0, none⟩), .pointer (some ⟨Bx, 0, none⟩), .func (.func 32) #[] #[.pointer (some ⟨Bn, 0, none⟩)], .agg #[.int .i64 x.a, .int .i64 x.b, .int .i64 x.c, .int .i64 x.d], undef, undef, undef, undef, undef], defers := [] })
    (fun x a' _ X Y row hs hg hr => by obtain ⟨Bx, h1, h2, h3⟩ := hs; exact ⟨Bx, h1, blk_kept h2 hg (fun r e => (hr r e).2), h3⟩)
    ?assign ?body ?done ?stop
  case assign =>
    rintro l pre x W K ⟨⟨v, hv, hrow, hnil⟩, hB1⟩ hK
    gi_wp2
    exact hK _ _ ((KeepsOthers.alloc _ _).from _) ((Below.refl _ W).alloc hB1.size _) ⟨⟨v, hv.alloc _, hrow.alloc _, hnil⟩, hB1.alloc hB1.size _⟩ ⟨W.heap.size, hv.lt, Blk.new W _ _, rfl⟩
  case body =>
    rintro l pre x a' W hl ⟨r, hr⟩ ⟨⟨v, hv, hrow, _⟩, hB1⟩ ⟨Bx, hBx, bX, rfl⟩ hlt
    have hc0 := hv.cell
    have e0 := bX.cell 0
    have e1 := bX.cell 1
    have e2 := bX.cell 2
    have e3 := bX.cell 3
    simp at e0 e1 e2 e3
    have hsz := hB1.size
    clear bX hr
    gi_wp2_with (gi_at_builtin; refine wpListIn_append_own _ rfl _ _ 42 rfl w.heap.size 30 i0 (.agg #[.int .i64 0, .int .i64 0, .int .i64 0, .int .i64 0]) 4 32 Try.underlying42 hi hz0 hz1 hz2 rfl (by decide) _ _ _ rfl (hrow.alloc _) ⟨W.heap.size, 0, none⟩ 1 1 x.cells rfl rfl (cells_four_new _ _ _) (four_oneCell x) (by unfold maxLen; omega) (by omega) (by simp; omega) ?_; intro v' w1 hown' hgrow _; obtain ⟨g', cap', rfl⟩ := ownsRow_succ hown'; obtain ⟨hv1, hv2, hr2, hk2, hb2⟩ := hv.appended (by decide) hrow hB1.size (Nat.le_refl _) hown' hgrow; have hc1 := hv1.cell; have hf1 := hv1.frozen)
    exact ⟨hk2.from _, hb2, ⟨_, hv2, by simpa using hr2, by simp⟩, hB1.trans hb2⟩
  case done =>
    rintro D ys W hD rfl ⟨⟨v, hv, hrow, hnil⟩, hB1⟩ hK
    obtain ⟨A, cp, rfl⟩ := ownsRow_form hrow
    have HNil := Lib.hid hnil
    clear hnil
    have hc1 := hv.cell
    have hf1 := hv.frozen
    gi_wp2
    have hK2 : (W.setCell ⟨w.heap.size, 0, none⟩ (.slice A ys.length cp)).heap[D]? = some (.deferred (some [])) := (KeepsOthers.setCell W _ _).same D _ hK rfl
    have hv2 := hv.set (.slice A ys.length cp)
    have hrow2 := hrow.kept (grownBy_setCell' W w.heap.size (.slice A ys.length cp)) (.inr (hv.not_row (by decide) hrow).symm)
    have hB2 : Below w.heap.size w (W.setCell ⟨w.heap.size, 0, none⟩ (.slice A ys.length cp)) := hB1.setCell (p := ⟨w.heap.size, 0, none⟩) (Nat.le_refl _) _
    have hc2 := cell_kept hv2.cell (grownBy_putObj' _ D (.deferred none)) (fun r e => by cases e; exact ⟨_, hK2, rfl⟩)
    refine ⟨by simp, .inl ⟨_, _, rfl, run_takeDeferred hK2, ?_⟩⟩
    refine ⟨.slice A ys.length cp, ?_, _, rfl, ownsRow_putObj hrow2 _ hK2 rfl, hB2.trans (belowK_b (w := w) (Nat.le_refl _) _ D _ _ (by simp at hD; omega) hK2 rfl rfl), HNil.out⟩
    simp [results, Try.results30, go_sem, hc2]
  case stop =>
    rintro D c pre W _ _ h _
    exact h.elim

theorem listed_calls (Bn b r m c g : Nat) (its : List It) (ring : Array Value) (hc : c ≤ 1073741824) (w : World) (hb : b < w.heap.size) (hr : r < w.heap.size) (hBn : Bn < w.heap.size)
    (hB : w.cell? ⟨Bn, 0, none⟩ = some (.pointer (some ⟨b, 0, none⟩))) (hO : OB w b r m c g its ring) :
    Calls Try.prog 30 #[.func (.func 32) #[] #[.pointer (some ⟨Bn, 0, none⟩)]] w fun e W' => ∃ v, e = .returned v ∧ W'.ownsRow w.heap.size 30 4 v its.length (its.flatMap It.cells) ∧ Below w.heap.size w W' ∧ (its = [] → v = .slice none 0 0) :=
  callsIn_wide.1 (listed_in Bn b r m c g its ring hc w hb hr hBn hB hO)

set_option maxHeartbeats 1000000 in
theorem all_calls (b r m c g : Nat) (its : List It) (ring : Array Value) (hc : c ≤ 1073741824) (w : World) (hO : OB w b r m c g its ring) :
    Calls Try.prog 24 #[.pointer (some ⟨b, 0, none⟩)] w fun e W' => ∃ A cp, e = .returned (.slice A its.length cp) ∧ W'.ownsRow w.heap.size 30 4 (.slice A its.length cp) its.length (its.flatMap It.cells) ∧ Kept w W' ∧ (its = [] → A = none ∧ cp = 0) := by
  have H := Lib.hid hO
  have hlb := hO.box.lt
  have hlr := hO.row.lt
  clear hO
  go_enter Try.func24, Try.ntmps24
  go_wp2_with fail
  refine (none_made b r m c g _ H.out.lo H.out.box).mono ?_
  rintro e w' ⟨rfl, rfl⟩
  go_wp2_with fail
  refine (items_calls b _).mono ?_
  rintro e w' ⟨rfl, rfl⟩
  go_wp2_with fail
  have hBx := (Blk.new w 24 #[.pointer (some ⟨b, 0, none⟩)]).cell 0
  refine (listed_calls w.heap.size b r m c g its ring hc _ (by simp; omega) (by simp; omega) (by simp) hBx (H.out.alloc _)).mono ?_
  rintro e w1 ⟨v, rfl, hrow, hbel, hnil⟩
  obtain ⟨A, cp, rfl⟩ := ownsRow_form hrow
  have HNil := Lib.hid hnil
  clear hnil
  have HR := Lib.hid hrow
  have HB := Lib.hid hbel
  clear hrow hbel hBx
  go_wp2_with fail
  go_ret
  refine ⟨A, cp, rfl, ownsRow_base HR.out (by simp), ((Only.refl (fun _ => False) w).alloc _).trans (kept_of_below HB.out), fun h => ?_⟩
  have := HNil.out h
  simp only [Value.slice.injEq] at this
  exact ⟨this.1, this.2.2⟩

set_option maxHeartbeats 1000000 in
theorem clear_calls (b r m c g : Nat) (its : List It) (ring : Array Value) (hc : c ≤ 1073741824) (w : World) (hO : OB w b r m c g its ring) :
    Calls Try.prog 19 #[.pointer (some ⟨b, 0, none⟩)] w fun e W' => ∃ A cp, e = .returned (.slice A its.length cp) ∧ W'.ownsRow w.heap.size 30 4 (.slice A its.length cp) its.length (its.flatMap It.cells) ∧
      OB W' b r m c c [] ring ∧ Only (fun k => k = b) w W' ∧ (its = [] → A = none ∧ cp = 0) := by
  have H := Lib.hid hO
  have hlb := hO.box.lt
  clear hO
  go_enter Try.func19, Try.ntmps19
  go_wp2_with fail
  refine (all_calls b r m c g its ring hc _ H.out).mono ?_
  rintro e w1 ⟨A, cp, rfl, hrow, hk, hnil⟩
  have HNil := Lib.hid hnil
  clear hnil
  have hO1 := H.out.keep hk (fun h => h) (fun h => h)
  have H1 := Lib.hid hO1
  have k1 := hO1.box.cell 1
  have z2 := hO1.box.frozen 2
  simp at k1
  obtain ⟨v2, k2⟩ : ∃ v, w1.cell? ⟨b, 2, none⟩ = some v := ⟨_, hO1.box.cell 2⟩
  have HR := Lib.hid hrow
  have HK := Lib.hid hk
  clear hrow hk hO1
  go_wp2_with fail
  refine (none_made b r m c g _ H.out.lo H1.out.box).mono ?_
  rintro e w' ⟨rfl, rfl⟩
  go_wp2_with fail
  go_ret
  have h1 := H1.out
  have hne : (Value.slice A its.length cp).ownBlock = none ∨ (Value.slice A its.length cp).ownBlock ≠ some b := by
    rcases HR.out.2 with ⟨h, _⟩ | ⟨q, cap, cur, h, hq, _⟩
    · rw [h]; exact .inl rfl
    · rw [h]; right; simp [Value.ownBlock]; omega
  refine ⟨A, cp, rfl, HR.out.kept (grownBy_cell w1 b 2 _) hne, ⟨?_, h1.row.far' h1.ne_.symm _, h1.size, by simp, by simp, h1.lo, h1.hi, RingAt.nil _ _ _⟩, ?_, HNil.out⟩
  · exact h1.box.set_ 2 _
  · exact Only.setOf (S := fun k => k = b) (HK.out.mono (fun _ _ h => h.elim)) rfl _

theorem all_nil (w : World) : Calls Try.prog 24 #[.pointer none] w fun e w' => e = .returned (.slice none 0 0) ∧ w = w' := by
  go_enter Try.func24, Try.ntmps24
  go_wp2_with (go_at_call 28; refine (none_nil _).mono ?_; rintro e w' ⟨rfl, rfl⟩)
  go_ret
  exact ⟨rfl, rfl⟩

theorem all_bare (b : Nat) (c g : Int) (w : World) (hb : Blk w b 49 #[.slice none 0 0, .int .i64 c, .int .i64 g]) : Calls Try.prog 24 #[.pointer (some ⟨b, 0, none⟩)] w fun e w' => e = .returned (.slice none 0 0) ∧ w = w' := by
  go_enter Try.func24, Try.ntmps24
  go_wp2_with (go_at_call 28; refine (none_bare b c g _ hb).mono ?_; rintro e w' ⟨rfl, rfl⟩)
  go_ret
  exact ⟨rfl, rfl⟩

theorem clear_nil (w : World) : Calls Try.prog 19 #[.pointer none] w fun e w' => e = .returned (.slice none 0 0) ∧ w = w' := by
  go_enter Try.func19, Try.ntmps19
  go_wp2_with (first | (go_at_call 24; refine (all_nil _).mono ?_; rintro e w' ⟨rfl, rfl⟩) | (go_at_call 28; refine (none_nil _).mono ?_; rintro e w' ⟨rfl, rfl⟩))
  go_ret
  exact ⟨rfl, rfl⟩

theorem clear_bare (b : Nat) (c g : Int) (w : World) (hb : Blk w b 49 #[.slice none 0 0, .int .i64 c, .int .i64 g]) : Calls Try.prog 19 #[.pointer (some ⟨b, 0, none⟩)] w fun e w' => e = .returned (.slice none 0 0) ∧ w = w' := by
  go_enter Try.func19, Try.ntmps19
  go_wp2_with (first | (go_at_call 24; refine (all_bare b c g _ hb).mono ?_; rintro e w' ⟨rfl, rfl⟩) | (go_at_call 28; refine (none_bare b c g _ hb).mono ?_; rintro e w' ⟨rfl, rfl⟩))
  go_ret
  exact ⟨rfl, rfl⟩

end Go.Proofs.Ytoohkcboidamnaa

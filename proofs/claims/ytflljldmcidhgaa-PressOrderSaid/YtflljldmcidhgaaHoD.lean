/- Holders' Push; container/heap's Pop and Push over holders. -/
import Derived.Deep.RegionLaw
import Derived.Test.YtflljldmcidhgaaHoC
namespace Go.Proofs.Ytflljldmcidhgaa
open Go.RowKit
set_option linter.unusedVariables false
set_option linter.unusedSimpArgs false
set_option linter.unnecessarySimpa false

theorem grownBy_cell (W : World) (b o : Nat) (v : Value) : W.grownBy (W.setCell ⟨b, o, none⟩ v) (some b) :=
  ⟨rfl, rfl, rfl, by simp [World.setCell], fun k hk hn => Below.heap_setCell W _ v k (fun e => hn (by rw [e]))⟩

theorem own_ne {w : World} {base n p : Nat} {t : TypeId} {v : Value} {xs : List Value} {cs : Array Value} (h : w.ownsRow base 41 2 v n xs) (hb : Blk w p t cs) (ht : t ≠ 41) : v.ownBlock ≠ some p := by
  intro e
  rcases h.2 with ⟨rfl, _⟩ | ⟨g, cap, cur, rfl, hg, hgb, _⟩
  · cases e
  · simp only [Value.ownBlock, Option.some.injEq] at e
    have e' : g = p := e
    subst e'
    exact absurd rfl (Blk.ne_ (w := w) hb hgb ht)

set_option maxHeartbeats 2000000 in
theorem hpushm_ok (base p n : Nat) (v : Value) (l : List Hd) (x : Hd) (w : World) (hb : Blk w p 50 #[v]) (hown : w.ownsRow base 41 2 v n (l.flatMap Hd.cells)) (hbase : base ≤ w.heap.size) (hn : n ≤ 1000) :
    Calls Try.prog 56 #[.pointer (some ⟨p, 0, none⟩), .iface 41 (.agg #[.int .i64 x.id, .int .i64 x.fr])] w fun e w' => (∃ v, e = .returned v) ∧ ∃ g cap, Blk w' p 50 #[.slice (some ⟨g, 0, none⟩) (n + 1) cap] ∧
      w'.ownsRow base 41 2 (.slice (some ⟨g, 0, none⟩) (n + 1) cap) (n + 1) ((l ++ [x]).flatMap Hd.cells) ∧ (v.ownBlock = some g ∨ w.heap.size ≤ g) ∧ Only (fun k => k = p ∨ v.ownBlock = some k) w w' := by
  obtain ⟨i0, hi, hz0, hz1, hz2⟩ := info_parts (show (Try.prog.info? 41).map (fun i => (i.zero, i.size, i.bytes)) = some (some (.agg #[.int .i64 0, .int .i64 0]), 2, 16) by kernel_rfl)
  have k1 := hb.cell 0
  have z1 := hb.frozen 0
  simp at k1
  have hltp := hb.lt
  have hnp := own_ne hown hb (by decide)
  have HB := Lib.hid hb
  have HOW := Lib.hid hown
  have HNP := Lib.hid hnp
  have has := as41
  have HOW1 := Lib.hid (show ((w.alloc (.cells #[.int .i64 x.id, .int .i64 x.fr] 41)).drew).ownsRow base 41 2 v n (l.flatMap Hd.cells) from hown.alloc _)
  have HNW := Lib.hid (show ∀ j u, x.cells[j]? = some u → ((w.alloc (.cells #[.int .i64 x.id, .int .i64 x.fr] 41)).drew).cell? ((⟨w.heap.size, 0, none⟩ : Addr).add j) = some u from hcells_new w x 41)
  have HBS := Lib.hid (show base ≤ ((w.alloc (.cells #[.int .i64 x.id, .int .i64 x.fr] 41)).drew).heap.size by show base ≤ (w.alloc _).heap.size; simp; omega)
  have hml : n + 1 ≤ maxLen := by unfold maxLen; omega
  have hml2 : (n + 1) * 16 ≤ 140737488355328 := by omega
  clear hb hown hnp
  go_enter Try.func56, Try.ntmps56
  go_wp2_with fail
  go_region_law (refine step_append_lies _ rfl (.tmp 7) (.tmp 10) 50 rfl base 41 i0 (.agg #[.int .i64 0, .int .i64 0]) 2 16 Try.underlying50 hi hz0 hz1 hz2 rfl Nat.two_pos v n (l.flatMap Hd.cells) rfl HOW1.out ⟨w.heap.size, 0, none⟩ 1 1 x.cells rfl rfl HNW.out (h_oneCell x) Nat.one_pos hml hml2 HBS.out _ rfl ?_; intro g cap w' hown' hgrow hat hlt; have HBw := Lib.hid (((HB.out.alloc (.cells #[.int .i64 x.id, .int .i64 x.fr] 41)).drew).grown hgrow (fun e => HNP.out e.symm)); have q1 : w'.cell? ⟨p, 0, none⟩ = some v := HBw.out.cell 0; have qf := HBw.out.frozen 0; have HOw := Lib.hid hown'; have HGw := Lib.hid hgrow; have HAt := Lib.hid hat; clear hown' hgrow hat)
  all_goals
    go_end0
    refine ⟨⟨_, rfl⟩, g, cap, ?_, ?_, ?_, ?_⟩
    · simpa using HBw.out.set_ 0 (.slice (some ⟨g, 0, none⟩) (n + 1) cap)
    · have h := HOw.out.kept (grownBy_cell w' p 0 (.slice (some ⟨g, 0, none⟩) (n + 1) cap)) (.inr (own_ne HOw.out HBw.out (by decide)))
      rw [List.flatMap_append]
      simpa using h
    · rcases HAt.out with h | h
      · exact .inl h
      · right
        rw [h]
        show w.heap.size ≤ (w.alloc _).heap.size
        simp
    · exact ((((Only.refl (fun k => k = p ∨ v.ownBlock = some k) w).alloc (.cells #[.int .i64 x.id, .int .i64 x.fr] 41)).drew).grown HGw.out (fun k hk _ => .inr hk)).setOf (o := 0) (.inl rfl) _

/-- Block k is a row of holders. -/
def T41 (w : World) (k : Nat) : Prop := ∃ cs, Blk w k 41 cs

/-- The list's head p, and rows of holders from base on. -/
def TS (base p : Nat) (w : World) (k : Nat) : Prop := k = p ∨ (base ≤ k ∧ T41 w k)

theorem ts_trans {base p : Nat} {a b c : World} (h : Only (TS base p a) a b) (k : Only (TS base p b) b c) : Only (TS base p a) a c :=
  h.trans' k (fun i hi hs => by
    rcases hs with rfl | ⟨h1, cs, h2⟩
    · exact .inl rfl
    · refine Classical.byContradiction fun hn => hn (.inr ⟨h1, cs, ?_⟩)
      exact (h.block i hi hn).symm.trans h2)

theorem ts_kept {base p : Nat} {a b : World} (h : Kept a b) : Only (TS base p a) a b := h.mono (fun _ _ f => f.elim)

/-- Holders in a heap, their list's head in block p. -/
structure Rest (w : World) (base p : Nat) (l : List Hd) : Prop where
  box : ∃ v, Blk w p 50 #[v] ∧ w.ownsRow base 41 2 v l.length (l.flatMap Hd.cells)
  heap : Heap kh l
  ok : ∀ x ∈ l, Hok x
  small : l.length ≤ 64
  lb : base ≤ w.heap.size

/-- A list that is not empty. -/
theorem Rest.row {w : World} {base p : Nat} {l : List Hd} (h : Rest w base p l) (h0 : l ≠ []) : ∃ g cap, Blk w p 50 #[.slice (some ⟨g, 0, none⟩) l.length cap] ∧ Row w g cap l ∧ l.length ≤ cap ∧ cap ≤ maxLen ∧ base ≤ g ∧ p ≠ g := by
  obtain ⟨v, hb, ho⟩ := h.box
  rcases ho.2 with ⟨rfl, h1⟩ | ⟨g, cap, cur, rfl, hg, hgb, h1, h2, h3, h4⟩
  · exact absurd (List.eq_nil_of_length_eq_zero h1) h0
  · obtain ⟨a1, a2, a3, a4⟩ := own_row ho rfl h.ok
    exact ⟨g, cap, hb, a1, a2, a3, a4, Blk.ne_ (w := w) hb hgb (by decide)⟩

theorem Rest.of_row {w : World} {base p g cap : Nat} {l : List Hd} (hb : Blk w p 50 #[.slice (some ⟨g, 0, none⟩) l.length cap]) (hr : Row w g cap l) (hc : l.length ≤ cap) (hm : cap ≤ maxLen) (hg : base ≤ g) (hh : Heap kh l) (hs : l.length ≤ 64) : Rest w base p l := by
  refine ⟨⟨_, hb, row_own hr hc hm hg⟩, hh, fun x hx => ?_, hs, ?_⟩
  · obtain ⟨k, hk⟩ := List.mem_iff_getElem?.1 hx
    exact hr.ok hk
  · obtain ⟨cs, h1, _⟩ := hr
    have := h1.lt
    omega

theorem Rest.new {w : World} {base p : Nat} (hb : Blk w p 50 #[.slice none 0 0]) (hl : base ≤ w.heap.size) : Rest w base p [] :=
  ⟨⟨_, hb, World.ownsRow_nil _ _ _ _⟩, (fun k h0 hk => absurd hk (Nat.not_lt_zero k)), (fun x hx => absurd hx (List.not_mem_nil)), Nat.zero_le _, hl⟩

theorem row_t41 {w : World} {g cap : Nat} {l : List Hd} (h : Row w g cap l) : T41 w g := by
  obtain ⟨cs, h1, _⟩ := h
  exact ⟨cs, h1⟩

set_option maxHeartbeats 2000000 in
theorem hpush_ok (base p : Nat) (x : Hd) (l : List Hd) (w : World) (h : Rest w base p l) (hx : Hok x) (hs : l.length < 64) :
    Calls Try.prog 30 #[.iface 52 (.pointer (some ⟨p, 0, none⟩)), .iface 41 (.agg #[.int .i64 x.id, .int .i64 x.fr])] w fun e w' => (∃ v, e = .returned v) ∧ ∃ l', Rest w' base p l' ∧ l'.Perm (x :: l) ∧ Only (TS base p w) w w' := by
  obtain ⟨n, hl⟩ : ∃ n, l.length = n := ⟨_, rfl⟩
  obtain ⟨v, hb, ho⟩ := h.box
  rw [hl] at ho hs
  have hlb := h.lb
  have H := Lib.hid h
  have HL := Lib.hid hl
  have HB := Lib.hid hb
  have HO := Lib.hid ho
  have HXX := Lib.hid hx
  clear h hl hb ho hx
  go_enter Try.func30, Try.ntmps30
  go_wp2_with fail
  refine (hpushm_ok base p n v l x w HB.out HO.out hlb (by omega)).mono ?_
  rintro e w1 ⟨⟨v1, rfl⟩, g, cap, hb1, ho1, hat1, hon1⟩
  have hok1 : ∀ y ∈ l ++ [x], Hok y := fun y hy => by
    rcases List.mem_append.1 hy with hy | hy
    · exact H.out.ok y hy
    · simp at hy; subst hy; exact HXX.out
  obtain ⟨hr1, hc1', hm1, hg1⟩ := own_row ho1 (by simp [HL.out]) hok1
  have hpg : p ≠ g := by
    obtain ⟨cs, hq, _⟩ := hr1
    exact hb1.ne_ hq (by decide)
  have hon : Only (TS base p w) w w1 := hon1.mono (fun k hk e => by
    rcases e with e | e
    · exact .inl e
    · right
      rcases HO.out.2 with ⟨rfl, _⟩ | ⟨g', cap', cur, rfl, hg', hgb, _⟩
      · cases e
      · injection e with e
        have e' : g' = k := e
        subst e'
        exact ⟨hg', cur, hgb⟩)
  have hc1 := hb1.cell 0
  simp at hc1
  have HR1 := Lib.hid hr1
  have HB1 := Lib.hid hb1
  have HON := Lib.hid hon
  clear ho1 hat1 hon1 hok1 hr1 hb1 hon
  have hm := m_len p 0 w1 _ hc1
  go_wp2_with fail
  refine (hlen_ok (some ⟨g, 0, none⟩) (n + 1) cap w1).mono ?_
  rintro e w' ⟨rfl, rfl⟩
  go_wp2_with fail
  refine (up_calls p g cap (n + 1) n (l ++ [x]) w1 hc1 hpg HR1.out (by simp [HL.out]) (by omega) (by omega) ?_).mono ?_
  · have := H.out.heap
    unfold Heap at this
    rw [HL.out] at this
    exact up_start this (fun k hk => by unfold kk; rw [List.getElem?_append_left (by rw [HL.out]; exact hk)])
  rintro e w2 ⟨⟨v2, rfl⟩, l2, hr2, hp2, hh2, ho2⟩
  have hl2 : l2.length = n + 1 := by rw [hp2.length_eq]; simp [HL.out]
  have HR2 := Lib.hid hr2
  have HP2 := Lib.hid hp2
  have HH2 := Lib.hid hh2
  have HO2 := Lib.hid ho2
  have HL2 := Lib.hid hl2
  clear hr2 hp2 hh2 ho2 hl2
  go_wp2_with fail
  go_end0
  refine ⟨⟨_, rfl⟩, l2, Rest.of_row (g := g) (cap := cap) ?_ HR2.out (by rw [HL2.out]; omega) hm1 hg1 ?_ (by rw [HL2.out]; omega), HP2.out.trans List.perm_append_comm, ts_trans HON.out (HO2.out.mono (fun k _ e => .inr ⟨by omega, by rw [e]; exact row_t41 HR1.out⟩))⟩
  · rw [HL2.out]; exact HO2.out.blk HB1.out hpg
  · unfold Heap; rw [HL2.out]; exact HH2.out

set_option maxHeartbeats 2000000 in
theorem hpop_ok (base p n : Nat) (x : Hd) (l : List Hd) (w : World) (h : Rest w base p l) (hl : l.length = n + 1) (hx : l[0]? = some x) :
    Calls Try.prog 31 #[.iface 52 (.pointer (some ⟨p, 0, none⟩))] w fun e w' => e = .returned (.iface 41 (.agg #[.int .i64 x.id, .int .i64 x.fr])) ∧ ∃ l', Rest w' base p l' ∧ (x :: l').Perm l ∧ Only (TS base p w) w w' := by
  obtain ⟨g, cap, hb, hr, hfit, hmx, hbg, hpg⟩ := h.row (by rintro rfl; simp at hl)
  have hsm := h.small
  rw [hl] at hb hsm hfit
  have hc := hb.cell 0
  simp at hc
  have H := Lib.hid h
  have HL := Lib.hid hl
  have HX := Lib.hid hx
  have HB := Lib.hid hb
  have HR := Lib.hid hr
  clear h hl hx hb hr
  have hm := m_len p 0 w _ hc
  go_enter Try.func31, Try.ntmps31
  go_wp2_with fail
  refine (hlen_ok (some ⟨g, 0, none⟩) (n + 1) cap w).mono ?_
  rintro e w' ⟨rfl, rfl⟩
  have hm2 := m_swap p 0 w _ hc
  go_wp2_with fail
  refine (HR.out.swap (i := 0) (j := n) HL.out (by omega) (by omega)).mono ?_
  rintro e w1 ⟨⟨v1, rfl⟩, hr1, ho1⟩
  have hc1 := only_cell ho1 hc hpg
  have HR1 := Lib.hid hr1
  have HO1 := Lib.hid ho1
  clear hr1 ho1
  go_wp2_with fail
  refine (down_calls p g cap n (n + 1) (swp l 0 n) w1 hc1 hpg HR1.out (by rw [swp_length, HL.out]) (by omega) (by omega) ?_).mono ?_
  · rw [kk_swp kh l (by rw [HL.out]; omega) (by rw [HL.out]; omega)]
    have := H.out.heap
    unfold Heap at this
    rw [HL.out] at this
    exact down_start this
  rintro e w2 ⟨⟨v2, rfl⟩, l2, hr2, hp2, hk2, hh2, ho2⟩
  have hl2 : l2.length = n + 1 := by rw [hp2.length_eq, swp_length, HL.out]
  have h2n : l2[n]? = some x := by
    rw [hk2 n (Nat.le_refl _), swp_get l (by rw [HL.out]; omega) (by rw [HL.out]; omega), if_pos rfl]
    exact HX.out
  have hB2 : Blk w2 p 50 #[.slice (some ⟨g, 0, none⟩) (n + 1) cap] := ho2.blk (HO1.out.blk HB.out hpg) hpg
  have HP2 := Lib.hid (pop_perm HL.out HX.out hp2 (hk2 n (Nat.le_refl _)))
  have HO2 := Lib.hid (HO1.out.trans ho2)
  have HR2 := Lib.hid hr2
  have HB2 := Lib.hid hB2
  have HH2 := Lib.hid hh2
  have HN2 := Lib.hid h2n
  have HL2 := Lib.hid hl2
  clear hr2 hp2 hk2 hh2 ho2 hl2 h2n hB2
  go_wp2_with fail
  refine (hpopm_ok p g cap n x w2 HB2.out (HR2.out.at_ HN2.out) (by omega) (by omega) hpg).mono ?_
  rintro e w3 ⟨rfl, hb3, ho3⟩
  have HB3 := Lib.hid hb3
  have HO3 := Lib.hid ho3
  clear hb3 ho3
  go_wp2_with fail
  go_ret
  have hlt : (l2.take n).length = n := by rw [List.length_take, HL2.out]; omega
  have hrow3 : Row w3 g cap (l2.take n) := by
    obtain ⟨cs, q1, q2, q3⟩ := HR2.out
    refine ⟨cs, HO3.out.blk q1 hpg.symm, q2, fun k y hy => q3 k y ?_⟩
    rw [List.getElem?_take] at hy
    split at hy
    · exact hy
    · cases hy
  refine ⟨rfl, l2.take n, Rest.of_row (g := g) (cap := cap) ?_ hrow3 (by rw [hlt]; omega) hmx hbg (heap_take kh HH2.out) (by rw [hlt]; omega), HP2.out, ?_⟩
  · rw [hlt]; exact HB3.out
  · exact ts_trans (HO2.out.mono (fun k _ e => .inr ⟨by omega, by rw [e]; exact row_t41 HR.out⟩)) (HO3.out.mono (fun k _ e => .inl e))
end Go.Proofs.Ytflljldmcidhgaa

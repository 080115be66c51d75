/- container/heap's Pop and Push over the free frames. -/
import Derived.Test.YtjfbanemjceimaaIdC
namespace Go.Proofs.Ytjfbanemjceimaa
open Go.RowKit
set_option linter.unusedVariables false
set_option linter.unusedSimpArgs false
set_option linter.unnecessarySimpa false

/-- The free frames: a heap, in the second field of block p, its row block ib. -/
structure Idle (w : World) (p ib cap : Nat) (fr m q : Value) (l : List Nat) : Prop where
  box : Blk w p 30 #[fr, .slice (some ⟨ib, 0, none⟩) l.length cap, m, q]
  row : Row w ib cap l
  fit : l.length ≤ cap
  heap : Heap nk l
  small : l.length ≤ 1000

theorem Idle.ne_ {w : World} {p ib cap : Nat} {fr m q : Value} {l : List Nat} (h : Idle w p ib cap fr m q l) : p ≠ ib := by
  obtain ⟨cs, h1, _⟩ := h.row
  exact h.box.ne_ h1 (by decide)

theorem Idle.keep {w w' : World} {p ib cap : Nat} {fr m q : Value} {l : List Nat} {S : Nat → Prop} (h : Idle w p ib cap fr m q l) (ho : Only S w w') (hp : ¬ S p) (hi : ¬ S ib) : Idle w' p ib cap fr m q l :=
  ⟨ho.blk h.box hp, h.row.keep ho hi, h.fit, h.heap, h.small⟩

set_option maxHeartbeats 2000000 in
theorem hpop_ok (p ib cap n : Nat) (fr m q : Value) (x : Nat) (l : List Nat) (w : World) (h : Idle w p ib cap fr m q l) (hl : l.length = n + 1) (hx : l[0]? = some x) :
    Calls Try.prog 29 #[.iface 62 (.pointer (some ⟨p, 1, none⟩))] w fun e w' => e = .returned (.iface 3 (.int .i64 (x : Int))) ∧ ∃ l', Idle w' p ib cap fr m q l' ∧ (x :: l').Perm l ∧ Only (fun k => k = p ∨ k = ib) w w' := by
  have hpi := h.ne_
  have hsm := h.small
  have hfit := h.fit
  have hc := h.box.cell 1
  simp at hc
  rw [hl] at hc hsm hfit
  have H := Lib.hid h
  have HL := Lib.hid hl
  have HX := Lib.hid hx
  clear h hl hx
  have hm := m_len p 1 w _ hc
  go_enter Try.func29, Try.ntmps29
  go_wp2_with fail
  refine (ilen_ok (some ⟨ib, 0, none⟩) (n + 1) cap w).mono ?_
  rintro e w' ⟨rfl, rfl⟩
  have hm2 := m_swap p 1 w _ hc
  go_wp2_with fail
  refine (H.out.row.swap (i := 0) (j := n) HL.out (by omega) (by omega)).mono ?_
  rintro e w1 ⟨⟨v1, rfl⟩, hr1, ho1⟩
  have hc1 := only_cell ho1 hc hpi
  have HR1 := Lib.hid hr1
  have HO1 := Lib.hid ho1
  clear hr1 ho1
  go_wp2_with fail
  refine (down_calls p ib cap n (n + 1) (swp l 0 n) w1 hc1 hpi HR1.out (by rw [swp_length, HL.out]) (by omega) (by omega) ?_).mono ?_
  · rw [kk_swp nk l (by rw [HL.out]; omega) (by rw [HL.out]; omega)]
    have := H.out.heap
    unfold Heap at this
    rw [HL.out] at this
    exact down_start this
  rintro e w2 ⟨⟨v2, rfl⟩, l2, hr2, hp2, hk2, hh2, ho2⟩
  have hl2 : l2.length = n + 1 := by rw [hp2.length_eq, swp_length, HL.out]
  have h2n : l2[n]? = some x := by
    rw [hk2 n (Nat.le_refl _), swp_get l (by rw [HL.out]; omega) (by rw [HL.out]; omega), if_pos rfl]
    exact HX.out
  have hB2 : Blk w2 p 30 #[fr, .slice (some ⟨ib, 0, none⟩) (n + 1) cap, m, q] := by
    have := ho2.blk (HO1.out.blk H.out.box hpi) hpi
    rwa [HL.out] at this
  have HP2 := Lib.hid (pop_perm HL.out HX.out hp2 (hk2 n (Nat.le_refl _)))
  have HO2 := Lib.hid (HO1.out.trans ho2)
  have HR2 := Lib.hid hr2
  have HB2 := Lib.hid hB2
  have HH2 := Lib.hid hh2
  have HN2 := Lib.hid h2n
  have HL2 := Lib.hid hl2
  clear hr2 hp2 hk2 hh2 ho2 hl2 h2n hB2
  obtain ⟨cs, hcs, hcz, hce⟩ := HR2.out
  have HCS := Lib.hid hcs
  have HCE := Lib.hid hce
  have HCZ := Lib.hid hcz
  clear hcs hce hcz
  go_wp2_with fail
  refine (ipop_ok p ib cap n fr m q x cs w2 HB2.out HCS.out (HCE.out n x HN2.out) (by omega) (by omega)).mono ?_
  rintro e w3 ⟨rfl, hb3, ho3⟩
  have HB3 := Lib.hid hb3
  have HO3 := Lib.hid ho3
  clear hb3 ho3
  go_wp2_with fail
  go_ret
  have hlt : (l2.take n).length = n := by rw [List.length_take, HL2.out]; omega
  refine ⟨rfl, l2.take n, ⟨?_, ⟨cs, HO3.out.blk HCS.out hpi.symm, HCZ.out, fun k y hy => HCE.out k y ?_⟩, ?_, heap_take nk HH2.out, ?_⟩, HP2.out, (HO2.out.mono (fun _ _ h => .inr h)).trans (HO3.out.mono (fun _ _ h => .inl h))⟩
  · rw [hlt]; exact HB3.out
  · rw [List.getElem?_take] at hy
    split at hy
    · exact hy
    · cases hy
  · rw [hlt]; omega
  · rw [hlt]; omega

set_option maxHeartbeats 2000000 in
theorem hpush_ok (p ib cap : Nat) (fr m q : Value) (x : Nat) (l : List Nat) (w : World) (h : Idle w p ib cap fr m q l) (hr : l.length < cap) (hs : l.length < 1000) :
    Calls Try.prog 45 #[.iface 62 (.pointer (some ⟨p, 1, none⟩)), .iface 3 (.int .i64 (x : Int))] w fun e w' => (∃ v, e = .returned v) ∧ ∃ l', Idle w' p ib cap fr m q l' ∧ l'.Perm (x :: l) ∧ Only (fun k => k = p ∨ k = ib) w w' := by
  have hpi := h.ne_
  obtain ⟨n, hl⟩ : ∃ n, l.length = n := ⟨_, rfl⟩
  rw [hl] at hr hs
  have H := Lib.hid h
  have HL := Lib.hid hl
  clear h hl
  obtain ⟨cs, hcs, hcz, hce⟩ := H.out.row
  have HCS := Lib.hid hcs
  have HCE := Lib.hid hce
  have HCZ := Lib.hid hcz
  clear hcs hce hcz
  go_enter Try.func45, Try.ntmps45
  go_wp2_with fail
  refine (ipush_ok p ib cap n fr m q x cs w (by have := H.out.box; rwa [HL.out] at this) HCS.out HCZ.out (by omega) (by omega)).mono ?_
  rintro e w1 ⟨⟨v1, rfl⟩, hb1, hr1, ho1⟩
  have hc1 := hb1.cell 1
  simp at hc1
  have HR1 : Hid (Row w1 ib cap (l ++ [x])) := Lib.hid ⟨_, hr1, by simpa using HCZ.out, fun k y hy => by
    by_cases e : k < n
    · rw [List.getElem?_append_left (by rw [HL.out]; exact e)] at hy
      rw [Array.getElem?_setIfInBounds_ne (by omega)]
      exact HCE.out k y hy
    · have hk := (List.getElem?_eq_some_iff.1 hy).1
      simp [HL.out] at hk
      obtain rfl : k = n := by omega
      have : (l ++ [x])[k]? = some x := by rw [List.getElem?_append_right (by rw [HL.out]; omega), HL.out]; simp
      rw [this] at hy
      cases hy
      have := HCZ.out
      exact Array.getElem?_setIfInBounds_self_of_lt (by omega)⟩
  have HB1 := Lib.hid hb1
  have HO1 := Lib.hid ho1
  clear hb1 hr1 ho1
  have hm := m_len p 1 w1 _ hc1
  go_wp2_with fail
  refine (ilen_ok (some ⟨ib, 0, none⟩) (n + 1) cap w1).mono ?_
  rintro e w' ⟨rfl, rfl⟩
  go_wp2_with fail
  refine (up_calls p ib cap (n + 1) n (l ++ [x]) w1 hc1 hpi HR1.out (by simp [HL.out]) (by omega) (by omega) ?_).mono ?_
  · have := H.out.heap
    unfold Heap at this
    rw [HL.out] at this
    exact up_start this (fun k hk => by unfold kk; rw [List.getElem?_append_left (by rw [HL.out]; exact hk)])
  rintro e w2 ⟨⟨v2, rfl⟩, l2, hr2, hp2, hh2, ho2⟩
  have hl2 : l2.length = n + 1 := by rw [hp2.length_eq]; simp [HL.out]
  have HR2 := Lib.hid hr2
  have HP2 := Lib.hid hp2
  have HH2 := Lib.hid hh2
  have HO2 := Lib.hid ho2
  have HL2 := Lib.hid hl2
  clear hr2 hp2 hh2 ho2 hl2
  go_wp2_with fail
  go_end0
  refine ⟨⟨_, rfl⟩, l2, ⟨?_, HR2.out, by rw [HL2.out]; omega, ?_, by rw [HL2.out]; omega⟩, HP2.out.trans List.perm_append_comm, HO1.out.trans (HO2.out.mono (fun _ _ h => .inr h))⟩
  · rw [HL2.out]; exact HO2.out.blk HB1.out hpi
  · unfold Heap; rw [HL2.out]; exact HH2.out
end Go.Proofs.Ytjfbanemjceimaa

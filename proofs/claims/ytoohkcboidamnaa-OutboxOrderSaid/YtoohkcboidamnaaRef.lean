/- The document's outbox in memory, and its methods. -/
import Derived.Deep.RegionLaw
import Derived.Deep.RegionLawGrows
import Derived.Test.YtoohkcboidamnaaObS
namespace Go.Proofs.Ytoohkcboidamnaa
open Go.RowKit
set_option linter.unusedVariables false
set_option linter.unusedSimpArgs false
set_option linter.unnecessarySimpa false

/-- The slice at A with this capacity holds the items, in a block from lo on (or there is no room at all). -/
def RS (w : World) (lo : Nat) (A : Option Addr) (cap : Nat) (its : List It) : Prop :=
  its.length ≤ cap ∧ ((A = none ∧ cap = 0) ∨ ∃ g off cells, A = some ⟨g, off, none⟩ ∧ lo ≤ g ∧ Blk w g 30 cells ∧ off + cap * 4 ≤ cells.size ∧
    ∀ i x, its[i]? = some x → cells[off + i * 4]? = some (.int .i64 x.a) ∧ cells[off + i * 4 + 1]? = some (.int .i64 x.b) ∧ cells[off + i * 4 + 2]? = some (.int .i64 x.c) ∧ cells[off + i * 4 + 3]? = some (.int .i64 x.d))

theorem RS.keep {w w' : World} {lo : Nat} {A : Option Addr} {cap : Nat} {its : List It} {S : Nat → Prop} (h : RS w lo A cap its) (ho : Only S w w') (hS : ∀ k, k < w.heap.size → lo ≤ k → ¬ S k) : RS w' lo A cap its := by
  refine ⟨h.1, ?_⟩
  rcases h.2 with h2 | ⟨g, off, cells, h1, h2, h3, h4⟩
  · exact .inl h2
  · exact .inr ⟨g, off, cells, h1, h2, ho.blk h3 (hS g h3.lt h2), h4⟩

theorem RS.sl {w : World} {lo : Nat} {A : Option Addr} {cap : Nat} {its : List It} (h : RS w lo A cap its) : Sl w A its := by
  intro hne
  rcases h.2 with ⟨h1, h2⟩ | ⟨g, off, cells, h1, h2, h3, h4, h5⟩
  · have := h.1
    cases its with
    | nil => exact absurd rfl hne
    | cons x l => simp at this; omega
  · refine ⟨g, off, h1, fun i x hx => ?_⟩
    obtain ⟨a0, a1, a2, a3⟩ := h5 i x hx
    exact ⟨(h3.cell _).trans a0, (h3.cell _).trans a1, (h3.cell _).trans a2, (h3.cell _).trans a3⟩

theorem Sl.keep {w w' : World} {A : Option Addr} {its : List It} (h : Sl w A its) (ho : Kept w w') : Sl w' A its := by
  intro hne
  obtain ⟨g, off, h1, h2⟩ := h hne
  refine ⟨g, off, h1, fun i x hx => ?_⟩
  obtain ⟨a0, a1, a2, a3⟩ := h2 i x hx
  exact ⟨kept_cell ho a0, kept_cell ho a1, kept_cell ho a2, kept_cell ho a3⟩

theorem flat_split : ∀ (its : List It) (j : Nat) (u : Value), (its.flatMap It.cells)[j]? = some u → ∃ i k x, j = i * 4 + k ∧ k < 4 ∧ its[i]? = some x ∧ x.cells[k]? = some u
  | [], j, u, h => by simp at h
  | y :: l, j, u, h => by
    simp only [List.flatMap_cons] at h
    rcases Nat.lt_or_ge j 4 with hj | hj
    · rw [List.getElem?_append_left (by simp [It.cells]; omega)] at h
      exact ⟨0, j, y, by omega, hj, rfl, h⟩
    · rw [List.getElem?_append_right (by simp [It.cells]; omega)] at h
      obtain ⟨i, k, x, h1, h2, h3, h4⟩ := flat_split l _ u h
      simp [It.cells] at h1
      exact ⟨i + 1, k, x, by omega, h2, by simpa using h3, h4⟩

theorem Sl.cells_at {w : World} {A : Option Addr} {its : List It} (h : Sl w A its) : ∀ b, A = some b → ∀ j u, (its.flatMap It.cells)[j]? = some u → w.cell? (b.add j) = some u := by
  intro b hb j u hj
  obtain ⟨i, k, x, rfl, hk, hx, hu⟩ := flat_split its j u hj
  have hne : its ≠ [] := by rintro rfl; simp at hx
  obtain ⟨g, off, h1, h2⟩ := h hne
  rw [h1] at hb
  cases hb
  obtain ⟨a0, a1, a2, a3⟩ := h2 i x hx
  rw [Addr.add_lit]
  rcases (show k = 0 ∨ k = 1 ∨ k = 2 ∨ k = 3 by omega) with rfl | rfl | rfl | rfl
  · simp [It.cells] at hu; subst hu; exact a0
  · simp [It.cells] at hu; subst hu; exact a1
  · simp [It.cells] at hu; subst hu; exact a2
  · simp [It.cells] at hu; subst hu; exact a3

/-- A row of items is no block of another type. -/
theorem own_apart {w : World} {base n : Nat} {v : Value} {xs : List Value} {b : Nat} {cs : Array Value} (h : w.ownsRow base 30 4 v n xs) (hb : Blk w b 57 cs) : v.ownBlock = none ∨ v.ownBlock ≠ some b := by
  rcases h.2 with ⟨rfl, _⟩ | ⟨g, cap, cur, rfl, _, hg, _⟩
  · exact .inl rfl
  · right
    intro e
    obtain rfl : g = b := by simpa [Value.ownBlock] using e
    exact absurd rfl (Blk.ne_ (t := 30) hg hb (by decide))

theorem RS.of_own {w : World} {lo base : Nat} {A : Option Addr} {n c : Nat} {its : List It} (h : w.ownsRow base 30 4 (.slice A n c) n (its.flatMap It.cells)) (hn : its.length = n) (hlo : lo ≤ base) : RS w lo A c its := by
  rcases h.2 with ⟨h1, h2⟩ | ⟨g, cap, cur, h1, h2, h3, h4, h5, h6, h7⟩
  · simp only [Value.slice.injEq] at h1
    obtain ⟨rfl, _, rfl⟩ := h1
    exact ⟨by omega, .inl ⟨rfl, rfl⟩⟩
  · simp only [Value.slice.injEq] at h1
    obtain ⟨rfl, _, rfl⟩ := h1
    refine ⟨by omega, .inr ⟨g, 0, cur, rfl, by omega, h3, by omega, fun i x hx => ?_⟩⟩
    have hc := h.cells (g := g) rfl
    have e0 := hc (i * 4 + 0) (.int .i64 x.a) (by rw [flat_get its i 0 x hx (by omega)]; rfl)
    have e1 := hc (i * 4 + 1) (.int .i64 x.b) (by rw [flat_get its i 1 x hx (by omega)]; rfl)
    have e2 := hc (i * 4 + 2) (.int .i64 x.c) (by rw [flat_get its i 2 x hx (by omega)]; rfl)
    have e3 := hc (i * 4 + 3) (.int .i64 x.d) (by rw [flat_get its i 3 x hx (by omega)]; rfl)
    simp only [Addr.add_lit, Nat.zero_add] at e0 e1 e2 e3
    rw [Blk.cell h3] at e0 e1 e2 e3
    simp only [Nat.zero_add]
    exact ⟨e0, e1, e2, e3⟩

/-- The document's outbox at block b, all of it from block lo on. -/
structure RB (w : World) (b lo m c : Nat) (A : Option Addr) (cap : Nat) (its : List It) : Prop where
  box : Blk w b 57 #[.int .i64 m, .slice A its.length cap, .int .i64 c]
  row : RS w lo A cap its
  lo_ : lo ≤ b
  fits : its.length ≤ m
  hi : m ≤ 1000

theorem RB.keep {w w' : World} {b lo m c cap : Nat} {A : Option Addr} {its : List It} {S : Nat → Prop} (h : RB w b lo m c A cap its) (ho : Only S w w') (hS : ∀ k, k < w.heap.size → lo ≤ k → ¬ S k) : RB w' b lo m c A cap its :=
  ⟨ho.blk h.box (hS b h.box.lt h.lo_), h.row.keep ho hS, h.lo_, h.fits, h.hi⟩

theorem RB.alloc {w : World} {b lo m c cap : Nat} {A : Option Addr} {its : List It} (h : RB w b lo m c A cap its) (o : Obj) : RB (w.alloc o) b lo m c A cap its := h.keep ((Only.refl (fun _ => False) w).alloc o) (fun _ _ _ f => f)
theorem RB.drewN {w : World} {b lo m c cap : Nat} {A : Option Addr} {its : List It} (h : RB w b lo m c A cap its) (n : Nat) : RB (w.drewN n) b lo m c A cap its := h.keep ((Only.refl (fun _ => False) w).drewN n) (fun _ _ _ f => f)

theorem rnew_no (n : Int) (w : World) (h : n < 1 ∨ 1000 < n) :
    Calls Try.prog 16 #[.int .i64 n] w fun e w' => e = .returned (.tuple #[.pointer none, .int .i64 3]) ∧ w = w' := by
  rcases h with h | h
  · go_enter Try.func16, Try.ntmps16
    go_wp2
    go_ret2
    exact ⟨rfl, rfl⟩
  · have h' : ¬ n < 1 := by omega
    go_enter Try.func16, Try.ntmps16
    go_wp2
    go_ret2
    exact ⟨rfl, rfl⟩

theorem rnew_at (m lo : Nat) (n : Int) (w : World) (hn : n = m) (h1 : 1 ≤ m) (h2 : m ≤ 1000) (hlo : lo ≤ w.heap.size) :
    Calls Try.prog 16 #[.int .i64 n] w fun e w' => ∃ b, e = .returned (.tuple #[.pointer (some ⟨b, 0, none⟩), .int .i64 0]) ∧ RB w' b lo m 0 none 0 [] ∧ w.heap.size ≤ b ∧ Kept w w' := by
  subst hn
  go_enter Try.func16, Try.ntmps16
  go_wp2
  go_ret2
  exact ⟨_, rfl, ⟨Blk.new w _ _, ⟨by simp, .inl ⟨rfl, rfl⟩⟩, hlo, by simp, h2⟩, Nat.le_refl _, (Only.refl _ _).alloc _⟩

set_option maxHeartbeats 400000 in
theorem rpush_full (b lo m c cap : Nat) (A : Option Addr) (its : List It) (x0 x1 x2 x3 : Int) (w : World) (h : RB w b lo m c A cap its) (hl : its.length = m) :
    Calls Try.prog 17 #[.pointer (some ⟨b, 0, none⟩), .agg #[.int .i64 x0, .int .i64 x1, .int .i64 x2, .int .i64 x3]] w fun e w' => e = .returned (.int .i64 15) ∧ Kept w w' := by
  have k0 := h.box.cell 0
  have k1 := h.box.cell 1
  simp at k0 k1
  have hlt := h.box.lt
  rw [hl] at k1
  have hle : (m : Int) ≤ (m : Int) := Int.le_refl _
  clear h hl
  go_enter Try.func17, Try.ntmps17
  go_wp2
  go_quiet (fail)
  go_wp2
  go_ret
  exact ⟨rfl, ((Only.refl _ _).alloc _).drewN _⟩

set_option maxHeartbeats 1000000 in
theorem rpush_room (b lo m c cap n : Nat) (g off : Nat) (x0 x1 x2 x3 : Int) (cells : Array Value) (w : World) (hb : Blk w b 57 #[.int .i64 m, .slice (some ⟨g, off, none⟩) n cap, .int .i64 c]) (hg : Blk w g 30 cells)
    (hs : off + cap * 4 ≤ cells.size) (hn : n + 1 ≤ cap) (hm : n < m) (hm2 : m ≤ 1000) (hc : c ≤ 1073741824) :
    Calls Try.prog 17 #[.pointer (some ⟨b, 0, none⟩), .agg #[.int .i64 x0, .int .i64 x1, .int .i64 x2, .int .i64 x3]] w fun e w' => e = .returned (.int .i64 0) ∧
      Blk w' b 57 #[.int .i64 m, .slice (some ⟨g, off, none⟩) (n + 1) cap, .int .i64 (c + 1)] ∧ Blk w' g 30 (put4 cells (off + n * 4) x0 x1 x2 x3) ∧ Only (fun k => k = b ∨ k = g) w w' := by
  obtain ⟨i0, hi, hz0, hz1, hz2⟩ := info_parts Try.info30
  have hbg : b ≠ g := hb.ne_ hg (by decide)
  have k0 := hb.cell 0
  have k1 := hb.cell 1
  simp at k0 k1
  have hltb := hb.lt
  have hltg := hg.lt
  have HB := Lib.hid hb
  have HG := Lib.hid hg
  have hge : decide ((m : Int) ≤ (n : Int)) = false := by simp; omega
  clear hb hg
  go_enter Try.func17, Try.ntmps17
  go_wp2
  go_quiet (fail)
  go_wp2
  have B1 : Blk ((w.alloc (.cells #[.int .i64 x0, .int .i64 x1, .int .i64 x2, .int .i64 x3] 30)).drewN nq) b 57 #[.int .i64 m, .slice (some ⟨g, off, none⟩) n cap, .int .i64 c] := (HB.out.alloc _).drewN _
  have G1 : Blk ((w.alloc (.cells #[.int .i64 x0, .int .i64 x1, .int .i64 x2, .int .i64 x3] 30)).drewN nq) g 30 cells := (HG.out.alloc _).drewN _
  have X1 : Blk ((w.alloc (.cells #[.int .i64 x0, .int .i64 x1, .int .i64 x2, .int .i64 x3] 30)).drewN nq) w.heap.size 30 #[.int .i64 x0, .int .i64 x1, .int .i64 x2, .int .i64 x3] := (Blk.new w _ _).drewN _
  have O1 : Only (fun k => k = b ∨ k = g) w ((w.alloc (.cells #[.int .i64 x0, .int .i64 x1, .int .i64 x2, .int .i64 x3] 30)).drewN nq) := ((Only.refl _ w).alloc _).drewN _
  generalize ((w.alloc (.cells #[.int .i64 x0, .int .i64 x1, .int .i64 x2, .int .i64 x3] 30)).drewN nq) = W at *
  clear k0 k1
  have k1 := B1.cell 1
  have z1 := B1.frozen 1
  have e0 := X1.cell 0
  have e1 := X1.cell 1
  have e2 := X1.cell 2
  have e3 := X1.cell 3
  simp at k1 e0 e1 e2 e3
  obtain ⟨v0, f0⟩ : ∃ v, W.cell? ⟨g, off + n * 4, none⟩ = some v := ⟨_, (G1.cell _).trans (Array.getElem?_eq_getElem (by omega))⟩
  obtain ⟨v1, f1⟩ : ∃ v, W.cell? ⟨g, off + n * 4 + 1, none⟩ = some v := ⟨_, (G1.cell _).trans (Array.getElem?_eq_getElem (by omega))⟩
  obtain ⟨v2, f2⟩ : ∃ v, W.cell? ⟨g, off + n * 4 + 2, none⟩ = some v := ⟨_, (G1.cell _).trans (Array.getElem?_eq_getElem (by omega))⟩
  obtain ⟨v3, f3⟩ : ∃ v, W.cell? ⟨g, off + n * 4 + 3, none⟩ = some v := ⟨_, (G1.cell _).trans (Array.getElem?_eq_getElem (by omega))⟩
  have y0 := G1.frozen (off + n * 4)
  have y1 := G1.frozen (off + n * 4 + 1)
  have y2 := G1.frozen (off + n * 4 + 2)
  have y3 := G1.frozen (off + n * 4 + 3)
  have hltb1 := B1.lt
  have hltg1 := G1.lt
  have HB1 := Lib.hid B1
  have HG1 := Lib.hid G1
  clear B1 G1 X1
  go_region
  have B2 := ((((((HB1.out.far' (o := off + n * 4) hbg (.int .i64 x0)).far' (o := off + n * 4 + 1) hbg (.int .i64 x1)).far' (o := off + n * 4 + 2) hbg (.int .i64 x2)).far' (o := off + n * 4 + 3) hbg (.int .i64 x3)).set_ 1 (.slice (some ⟨g, off, none⟩) (n + 1) cap)).alloc (.cells #[.int .i64 x0, .int .i64 x1, .int .i64 x2, .int .i64 x3] 30)).drew
  have G2 := ((((((HG1.out.set_ (off + n * 4) (.int .i64 x0)).set_ (off + n * 4 + 1) (.int .i64 x1)).set_ (off + n * 4 + 2) (.int .i64 x2)).set_ (off + n * 4 + 3) (.int .i64 x3)).far' (o := 1) hbg.symm (.slice (some ⟨g, off, none⟩) (n + 1) cap)).alloc (.cells #[.int .i64 x0, .int .i64 x1, .int .i64 x2, .int .i64 x3] 30)).drew
  have O2 := ((((((O1.setOf (q := g) (o := off + n * 4) (.inr rfl) (.int .i64 x0)).setOf (q := g) (o := off + n * 4 + 1) (.inr rfl) (.int .i64 x1)).setOf (q := g) (o := off + n * 4 + 2) (.inr rfl) (.int .i64 x2)).setOf (q := g) (o := off + n * 4 + 3) (.inr rfl) (.int .i64 x3)).setOf (q := b) (o := 1) (.inl rfl) (.slice (some ⟨g, off, none⟩) (n + 1) cap)).alloc (.cells #[.int .i64 x0, .int .i64 x1, .int .i64 x2, .int .i64 x3] 30)).drew
  clear e0 e1 e2 e3 f0 f1 f2 f3 y0 y1 y2 y3 HB1 HG1 O1 k1 z1
  generalize ((((((W.setCell ⟨g, off + n * 4, none⟩ (.int .i64 x0)).setCell ⟨g, off + n * 4 + 1, none⟩ (.int .i64 x1)).setCell ⟨g, off + n * 4 + 2, none⟩ (.int .i64 x2)).setCell ⟨g, off + n * 4 + 3, none⟩ (.int .i64 x3)).setCell ⟨b, 1, none⟩ (.slice (some ⟨g, off, none⟩) (n + 1) cap)).alloc (.cells #[.int .i64 x0, .int .i64 x1, .int .i64 x2, .int .i64 x3] 30)).drew = W2 at *
  have k2 := B2.cell 2
  have z2 := B2.frozen 2
  simp at k2
  have HB2 := Lib.hid B2
  have HG2 := Lib.hid G2
  have HO2 := Lib.hid O2
  clear B2 G2 O2
  go_wp2
  go_ret
  have HO3 : Only (fun k => k = b ∨ k = g) w (W2.setCell ⟨b, 2, none⟩ (.int .i64 ((c : Int) + 1))) := HO2.out.setOf (q := b) (o := 2) (Or.inl rfl) _
  exact ⟨rfl, by simpa using HB2.out.set_ 2 (.int .i64 (c + 1)), HG2.out.far' hbg.symm _, HO3⟩

set_option maxHeartbeats 1000000 in
theorem rpush_grow (b m c cap n : Nat) (A : Option Addr) (its : List It) (x0 x1 x2 x3 : Int) (w : World) (hb : Blk w b 57 #[.int .i64 m, .slice A n cap, .int .i64 c]) (hn : its.length = n) (hA : A = none → cap = 0)
    (hsl : Sl w A its) (hf : cap < n + 1) (hnc : n ≤ cap) (hm : n < m) (hm2 : m ≤ 1000) (hc : c ≤ 1073741824) :
    Calls Try.prog 17 #[.pointer (some ⟨b, 0, none⟩), .agg #[.int .i64 x0, .int .i64 x1, .int .i64 x2, .int .i64 x3]] w fun e w' => e = .returned (.int .i64 0) ∧ ∃ A' cap',
      Blk w' b 57 #[.int .i64 m, .slice A' (n + 1) cap', .int .i64 (c + 1)] ∧ w'.ownsRow w.heap.size 30 4 (.slice A' (n + 1) cap') (n + 1) ((its ++ [(⟨x0, x1, x2, x3⟩ : It)]).flatMap It.cells) ∧ Only (fun k => k = b) w w' := by
  obtain ⟨i0, hi, hz0, hz1, hz2⟩ := info_parts Try.info30
  have k0 := hb.cell 0
  have k1 := hb.cell 1
  simp at k0 k1
  have hltb := hb.lt
  have HB := Lib.hid hb
  have HN := Lib.hid hn
  have HA := Lib.hid hA
  have HS := Lib.hid hsl
  have hge : decide ((m : Int) ≤ (n : Int)) = false := by simp; omega
  clear hb hn hA hsl
  go_enter Try.func17, Try.ntmps17
  go_wp2
  go_quiet (fail)
  go_wp2
  have B1 : Blk ((w.alloc (.cells #[.int .i64 x0, .int .i64 x1, .int .i64 x2, .int .i64 x3] 30)).drewN nq) b 57 #[.int .i64 m, .slice A n cap, .int .i64 c] := (HB.out.alloc _).drewN _
  have X1 : Blk ((w.alloc (.cells #[.int .i64 x0, .int .i64 x1, .int .i64 x2, .int .i64 x3] 30)).drewN nq) w.heap.size 30 #[.int .i64 x0, .int .i64 x1, .int .i64 x2, .int .i64 x3] := (Blk.new w _ _).drewN _
  have O1 : Only (fun k => k = b) w ((w.alloc (.cells #[.int .i64 x0, .int .i64 x1, .int .i64 x2, .int .i64 x3] 30)).drewN nq) := ((Only.refl _ w).alloc _).drewN _
  have HS1 : Hid (Sl (((w.alloc (.cells #[.int .i64 x0, .int .i64 x1, .int .i64 x2, .int .i64 x3] 30)).drewN nq).alloc (.cells #[.int .i64 x0, .int .i64 x1, .int .i64 x2, .int .i64 x3] 30)).drew A its) := Lib.hid (HS.out.keep (((((Only.refl _ w).alloc _).drewN _).alloc _).drew))
  generalize ((w.alloc (.cells #[.int .i64 x0, .int .i64 x1, .int .i64 x2, .int .i64 x3] 30)).drewN nq) = W at *
  clear k0 k1
  have k1 := B1.cell 1
  have z1 := B1.frozen 1
  have e0 := X1.cell 0
  have e1 := X1.cell 1
  have e2 := X1.cell 2
  have e3 := X1.cell 3
  simp at k1 e0 e1 e2 e3
  have hltb1 := B1.lt
  have HB1 := Lib.hid B1
  have HO1 := Lib.hid O1
  clear B1 X1 O1
  go_region_law (refine step_append_grows rfl (.tmp 19) (.tmp 21) 42 rfl 30 i0 (.agg #[.int .i64 0, .int .i64 0, .int .i64 0, .int .i64 0]) 4 32 Try.underlying42 hi hz0 hz1 hz2 rfl (by decide) A n cap (its.flatMap It.cells) (by simp [Act.eval, Act.put]) (fun h => ⟨by have := HA.out h; omega, HA.out h⟩) (by rw [cells_length, HN.out]) (HS1.out.cells_at) ⟨W.heap.size, 0, none⟩ 1 1 [.int .i64 x0, .int .i64 x1, .int .i64 x2, .int .i64 x3] (by simp [Act.eval, Act.put]) rfl (cells_four_new _ ⟨x0, x1, x2, x3⟩ _) (four_oneCell ⟨x0, x1, x2, x3⟩) (by omega) (by unfold maxLen; omega) (by omega) ?_; intro v' w' hown hgrow; obtain ⟨A', cp', rfl⟩ := ownsRow_form hown; have HBw := Lib.hid (((HB1.out.alloc _).drew).grown hgrow (by simp)); have q1 : w'.cell? ⟨b, 1, none⟩ = some (.slice A n cap) := HBw.out.cell 1; have qf := HBw.out.frozen 1; have HOw := Lib.hid (((HO1.out.alloc _).drew).grown hgrow (by intro k hk; cases hk)); have HRw := Lib.hid hown; clear hown hgrow)
  all_goals
    have B2 := HBw.out.set_ 1 (.slice A' (n + 1) cp')
    have O2 : Only (fun k => k = b) w (w'.setCell ⟨b, 1, none⟩ (.slice A' (n + 1) cp')) := HOw.out.setOf (q := b) (o := 1) (by exact rfl) _
    have R2 := HRw.out.kept (grownBy_cell w' b 1 (.slice A' (n + 1) cp')) (own_apart HRw.out HBw.out)
    have hsz := HO1.out.size
    clear q1 qf HBw HOw HRw
    generalize (w'.setCell ⟨b, 1, none⟩ (.slice A' (n + 1) cp')) = W2 at *
    have k2 := B2.cell 2
    have z2 := B2.frozen 2
    simp at k2
    have HB2 := Lib.hid B2
    have HO2 := Lib.hid O2
    have HR2 := Lib.hid R2
    clear B2 O2 R2
    go_wp2
    go_ret
    have HO3 : Only (fun k => k = b) w (W2.setCell ⟨b, 2, none⟩ (.int .i64 ((c : Int) + 1))) := HO2.out.setOf (q := b) (o := 2) (by exact rfl) _
    refine ⟨rfl, A', cp', by simpa using HB2.out.set_ 2 (.int .i64 (c + 1)), ?_, HO3⟩
    have h3 := HR2.out.kept (grownBy_cell W2 b 2 (.int .i64 ((c : Int) + 1))) (own_apart HR2.out HB2.out)
    simp only [List.flatMap_append]
    exact ownsRow_base h3 (by simp; omega)

theorem rpush_ok (b lo m c cap : Nat) (A : Option Addr) (its : List It) (x0 x1 x2 x3 : Int) (w : World) (h : RB w b lo m c A cap its) (hl : its.length < m) (hc : c ≤ 1073741824) (hlw : lo ≤ w.heap.size) :
    Calls Try.prog 17 #[.pointer (some ⟨b, 0, none⟩), .agg #[.int .i64 x0, .int .i64 x1, .int .i64 x2, .int .i64 x3]] w fun e w' => e = .returned (.int .i64 0) ∧ ∃ A' cap',
      RB w' b lo m (c + 1) A' cap' (its ++ [⟨x0, x1, x2, x3⟩]) ∧ Only (fun k => lo ≤ k) w w' := by
  have hlo := h.lo_
  by_cases hr : its.length + 1 ≤ cap
  · rcases h.row.2 with ⟨_, h0⟩ | ⟨g, off, cells, rfl, hg, hG, hs, hat⟩
    · omega
    · refine (rpush_room b lo m c cap its.length g off x0 x1 x2 x3 cells w h.box hG hs hr hl h.hi hc).mono ?_
      rintro e w' ⟨he, hB, hG', ho⟩
      refine ⟨he, _, cap, ⟨by simpa using hB, ⟨by simp; omega, .inr ⟨g, off, _, rfl, hg, hG', by rw [put4_size]; exact hs, fun i x hx => ?_⟩⟩, hlo, by simp; omega, h.hi⟩, ho.mono (fun k _ hk => by rcases hk with rfl | rfl <;> assumption)⟩
      rcases Nat.lt_trichotomy i its.length with hi | hi | hi
      · rw [List.getElem?_append_left hi] at hx
        obtain ⟨a0, a1, a2, a3⟩ := hat i x hx
        exact ⟨by rw [put4_far _ _ _ _ _ _ _ (by omega)]; exact a0, by rw [put4_far _ _ _ _ _ _ _ (by omega)]; exact a1, by rw [put4_far _ _ _ _ _ _ _ (by omega)]; exact a2, by rw [put4_far _ _ _ _ _ _ _ (by omega)]; exact a3⟩
      · subst hi
        simp at hx
        subst hx
        exact put4_at _ _ _ _ _ _ (by omega)
      · rw [List.getElem?_eq_none (by simp; omega)] at hx
        cases hx
  · have hcap := h.row.1
    refine (rpush_grow b m c cap its.length A its x0 x1 x2 x3 w h.box rfl ?_ h.row.sl (by omega) hcap hl h.hi hc).mono ?_
    · rintro rfl
      rcases h.row.2 with ⟨_, h0⟩ | ⟨g, off, cells, h1, _⟩
      · exact h0
      · cases h1
    · rintro e w' ⟨he, A', cap', hB, hown, ho⟩
      refine ⟨he, A', cap', ⟨by simpa using hB, RS.of_own hown (by simp) hlw, hlo, by simp; omega, h.hi⟩, ho.mono (fun k _ hk => by rw [hk]; exact hlo)⟩

end Go.Proofs.Ytoohkcboidamnaa

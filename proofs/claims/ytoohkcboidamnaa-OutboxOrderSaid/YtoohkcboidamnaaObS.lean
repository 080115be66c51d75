/- Lists of items: SameItems, OverItems, of. -/
import Derived.Test.YtoohkcboidamnaaObI
namespace Go.Proofs.Ytoohkcboidamnaa
open Go.RowKit
set_option linter.unusedVariables false
set_option linter.unusedSimpArgs false
set_option linter.unnecessarySimpa false

/-- A slice value at address A reads as the items its. -/
def Sl (w : World) (A : Option Addr) (its : List It) : Prop :=
  its ≠ [] → ∃ g off, A = some ⟨g, off, none⟩ ∧ ∀ i x, its[i]? = some x → w.cell? ⟨g, off + i * 4, none⟩ = some (.int .i64 x.a) ∧ w.cell? ⟨g, off + i * 4 + 1, none⟩ = some (.int .i64 x.b) ∧ w.cell? ⟨g, off + i * 4 + 2, none⟩ = some (.int .i64 x.c) ∧ w.cell? ⟨g, off + i * 4 + 3, none⟩ = some (.int .i64 x.d)

theorem Sl.drewN {w : World} {A : Option Addr} {its : List It} (h : Sl w A its) (n : Nat) : Sl (w.drewN n) A its := h

theorem flat_get : ∀ (its : List It) (i j : Nat) (x : It), its[i]? = some x → j < 4 → (its.flatMap It.cells)[i * 4 + j]? = x.cells[j]?
  | [], i, j, x, h, _ => by simp at h
  | y :: l, 0, j, x, h, hj => by
    simp at h
    subst h
    simp only [List.flatMap_cons, Nat.zero_mul, Nat.zero_add]
    rw [List.getElem?_append_left (by simp [It.cells]; omega)]
  | y :: l, i + 1, j, x, h, hj => by
    simp only [List.flatMap_cons]
    rw [List.getElem?_append_right (by simp [It.cells]; omega)]
    have := flat_get l i j x (by simpa using h) hj
    rw [← this]
    congr 1
    simp [It.cells]
    omega

theorem Sl.of_own {w : World} {base : Nat} {A : Option Addr} {n c : Nat} {its : List It} (h : w.ownsRow base 30 4 (.slice A n c) n (its.flatMap It.cells)) : Sl w A its := by
  intro hne
  rcases h.2 with ⟨_, h2⟩ | ⟨g, cap, cur, h1, _⟩
  · have := h.1
    rw [cells_length, h2] at this
    cases its with
    | nil => exact absurd rfl hne
    | cons x l => simp at this
  · simp only [Value.slice.injEq] at h1
    obtain ⟨rfl, _, _⟩ := h1
    refine ⟨g, 0, rfl, fun i x hx => ?_⟩
    have hc := h.cells (g := g) rfl
    have e0 := hc (i * 4 + 0) (.int .i64 x.a) (by rw [flat_get its i 0 x hx (by omega)]; rfl)
    have e1 := hc (i * 4 + 1) (.int .i64 x.b) (by rw [flat_get its i 1 x hx (by omega)]; rfl)
    have e2 := hc (i * 4 + 2) (.int .i64 x.c) (by rw [flat_get its i 2 x hx (by omega)]; rfl)
    have e3 := hc (i * 4 + 3) (.int .i64 x.d) (by rw [flat_get its i 3 x hx (by omega)]; rfl)
    simp only [Addr.add_lit] at e0 e1 e2 e3
    exact ⟨e0, by rw [← e1]; rfl, by rw [← e2]; rfl, by rw [← e3]; rfl⟩

set_option maxHeartbeats 1000000 in
theorem same_items (A B : Option Addr) (n c c' : Nat) (its : List It) (w : World) (hn : n = its.length) (hb : n ≤ 1073741824) (ha : Sl w A its) (hB : Sl w B its) :
    Calls Try.prog 20 #[.slice A n c, .slice B n c'] w fun e w' => e = .returned (.bool true) ∧ ∃ q, w' = w.drewN q := by
  have HN := Lib.hid hn
  have HA := Lib.hid ha
  have HB := Lib.hid hB
  clear hn ha hB
  go_enter Try.func20, Try.ntmps20
  go_wp2_with fail
  go_loopw [5, 6] (fun s v wr => ∃ k q : Nat, s = .bool true ∧ v = .int .i64 k ∧ k ≤ n ∧ wr = w.drewN q) (fun _ v _ => n - (intOf v).toNat)
  case atStart => exact ⟨0, 0, by simp, rfl, by omega, rfl⟩
  case round =>
    obtain ⟨k, q, rfl, rfl, hk, hw⟩ := hrel
    by_cases hlt : k < n
    · obtain ⟨x, hx⟩ : ∃ x, its[k]? = some x := ⟨_, List.getElem?_eq_getElem (by rw [← HN.out]; exact hlt)⟩
      have hne : its ≠ [] := by rintro rfl; simp at hx
      obtain ⟨g1, o1, rfl, h1⟩ := HA.out hne
      obtain ⟨g2, o2, rfl, h2⟩ := HB.out hne
      obtain ⟨a0, a1, a2, a3⟩ := h1 k x hx
      obtain ⟨b0, b1, b2, b3⟩ := h2 k x hx
      subst hw
      clear HA HB HN h1 h2 hx
      go_wp2
      go_quiet (fail)
      go_wp2
      go_roundw
      case rel => exact ⟨k + 1, _, rfl, by go_num, by omega, rfl⟩
      case measure => simp [intOf]; omega
    · subst hw
      go_wp2
      go_ret
      exact ⟨rfl, _, rfl⟩

theorem own_block {w : World} {base : Nat} {A : Option Addr} {n c : Nat} {xs : List Value} (h : w.ownsRow base 30 4 (.slice A n c) n xs) (h0 : 0 < n) :
    ∃ g cur, A = some ⟨g, 0, none⟩ ∧ base ≤ g ∧ Blk w g 30 cur ∧ n * 4 ≤ cur.size := by
  rcases h.2 with ⟨hn, hx⟩ | ⟨g, cap, cur, h1, h2, h3, h4⟩
  · have := h.1
    rw [hx] at this
    simp at this
    omega
  · simp only [Value.slice.injEq] at h1
    obtain ⟨rfl, _, rfl⟩ := h1
    refine ⟨g, cur, rfl, h2, h3, ?_⟩
    have hl := h.1
    have hc := h.cells (g := g) rfl
    rcases Nat.lt_or_ge (n * 4 - 1) cur.size with hlt | hge
    · omega
    · exfalso
      have hx : n * 4 - 1 < xs.length := by omega
      have := hc (n * 4 - 1) _ (List.getElem?_eq_getElem hx)
      rw [Addr.add_lit, Nat.zero_add, Blk.cell h3, Array.getElem?_eq_none hge] at this
      cases this

set_option maxHeartbeats 1000000 in
theorem over_items (base : Nat) (A : Option Addr) (n c : Nat) (xs : List Value) (w : World) (hb : n ≤ 1073741824) (h : w.ownsRow base 30 4 (.slice A n c) n xs) :
    Calls Try.prog 22 #[.slice A n c] w fun e w' => e = .returned (.tuple #[]) ∧ Only (fun k => base ≤ k) w w' := by
  have H := Lib.hid h
  clear h
  go_enter Try.func22, Try.ntmps22
  go_wp2_with fail
  go_loopw [2] (fun v wr => ∃ k : Nat, v = .int .i64 k ∧ k ≤ n ∧ (0 < n → ∃ g cur, A = some ⟨g, 0, none⟩ ∧ base ≤ g ∧ Blk wr g 30 cur ∧ n * 4 ≤ cur.size) ∧ Only (fun k => base ≤ k) w wr) (fun v _ => n - (intOf v).toNat)
  case atStart => exact ⟨0, rfl, by omega, own_block H.out, Only.refl _ _⟩
  case round =>
    obtain ⟨k, rfl, hk, hg, ho⟩ := hrel
    by_cases hlt : k < n
    · obtain ⟨g, cur, rfl, hbg, hB, hs⟩ := hg (by omega)
      obtain ⟨v0, f0⟩ : ∃ v, wr.cell? ⟨g, k * 4, none⟩ = some v := ⟨_, (hB.cell _).trans (Array.getElem?_eq_getElem (by omega))⟩
      obtain ⟨v1, f1⟩ : ∃ v, wr.cell? ⟨g, k * 4 + 1, none⟩ = some v := ⟨_, (hB.cell _).trans (Array.getElem?_eq_getElem (by omega))⟩
      obtain ⟨v2, f2⟩ : ∃ v, wr.cell? ⟨g, k * 4 + 2, none⟩ = some v := ⟨_, (hB.cell _).trans (Array.getElem?_eq_getElem (by omega))⟩
      obtain ⟨v3, f3⟩ : ∃ v, wr.cell? ⟨g, k * 4 + 3, none⟩ = some v := ⟨_, (hB.cell _).trans (Array.getElem?_eq_getElem (by omega))⟩
      have z0 := hB.frozen (k * 4)
      have z1 := hB.frozen (k * 4 + 1)
      have z2 := hB.frozen (k * 4 + 2)
      have z3 := hB.frozen (k * 4 + 3)
      have HB := Lib.hid hB
      have HO := Lib.hid ho
      clear hB ho hg H
      go_wp2
      go_roundw
      case rel =>
        refine ⟨k + 1, by go_num, by omega, fun _ => ⟨g, _, rfl, hbg, (((HB.out.set_ _ _).set_ _ _).set_ _ _).set_ _ _, by simpa using hs⟩, ?_⟩
        exact (((HO.out.setOf hbg _).setOf hbg _).setOf hbg _).setOf hbg _
      case measure => simp [intOf]; omega
    · have HO := Lib.hid ho
      clear hg ho H
      go_wp2
      go_end0
      exact ⟨rfl, HO.out⟩

end Go.Proofs.Ytoohkcboidamnaa

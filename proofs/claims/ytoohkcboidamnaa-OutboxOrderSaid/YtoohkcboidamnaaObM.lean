/- What an outbox is in memory: its struct's block, its ring's block, and the items that wait in it. -/
import Derived.Test.YtoohkcboidamnaaObC
import Derived.Laws.MakeOwn
namespace Go.Proofs.Ytoohkcboidamnaa
open Go.RowKit
set_option linter.unusedVariables false
set_option linter.unusedSimpArgs false
set_option linter.unnecessarySimpa false

structure It where
  a : Int
  b : Int
  c : Int
  d : Int

def It.cells (x : It) : List Value := [.int .i64 x.a, .int .i64 x.b, .int .i64 x.c, .int .i64 x.d]

/-- The items l wait in the ring from the g-th place ever on. -/
def RingAt (ring : Array Value) (m g : Nat) (l : List It) : Prop :=
  ∀ i x, l[i]? = some x → ring[(g + i) % m * 4]? = some (.int .i64 x.a) ∧ ring[(g + i) % m * 4 + 1]? = some (.int .i64 x.b) ∧ ring[(g + i) % m * 4 + 2]? = some (.int .i64 x.c) ∧ ring[(g + i) % m * 4 + 3]? = some (.int .i64 x.d)

theorem put4_size (ring : Array Value) (k : Nat) (x0 x1 x2 x3 : Int) : (put4 ring k x0 x1 x2 x3).size = ring.size := by simp [put4]

theorem put4_far (ring : Array Value) (k j : Nat) (x0 x1 x2 x3 : Int) (h : j < k ∨ k + 3 < j) : (put4 ring k x0 x1 x2 x3)[j]? = ring[j]? := by
  unfold put4
  rw [Array.getElem?_setIfInBounds_ne (by omega), Array.getElem?_setIfInBounds_ne (by omega), Array.getElem?_setIfInBounds_ne (by omega), Array.getElem?_setIfInBounds_ne (by omega)]

theorem put4_at (ring : Array Value) (k : Nat) (x0 x1 x2 x3 : Int) (h : k + 3 < ring.size) :
    (put4 ring k x0 x1 x2 x3)[k]? = some (.int .i64 x0) ∧ (put4 ring k x0 x1 x2 x3)[k + 1]? = some (.int .i64 x1) ∧ (put4 ring k x0 x1 x2 x3)[k + 2]? = some (.int .i64 x2) ∧ (put4 ring k x0 x1 x2 x3)[k + 3]? = some (.int .i64 x3) := by
  unfold put4
  refine ⟨?_, ?_, ?_, ?_⟩
  · rw [Array.getElem?_setIfInBounds_ne (by omega), Array.getElem?_setIfInBounds_ne (by omega), Array.getElem?_setIfInBounds_ne (by omega), Array.getElem?_setIfInBounds_self_of_lt (by omega)]
  · rw [Array.getElem?_setIfInBounds_ne (by omega), Array.getElem?_setIfInBounds_ne (by omega), Array.getElem?_setIfInBounds_self_of_lt (by simp; omega)]
  · rw [Array.getElem?_setIfInBounds_ne (by omega), Array.getElem?_setIfInBounds_self_of_lt (by simp; omega)]
  · rw [Array.getElem?_setIfInBounds_self_of_lt (by simp; omega)]

theorem place_ne {g i j m : Nat} (hij : i < j) (hj : j < i + m) : (g + i) % m ≠ (g + j) % m := by
  intro h
  have h1 := Nat.sub_mod_eq_zero_of_mod_eq h.symm
  have h2 : g + j - (g + i) = j - i := by omega
  rw [h2, Nat.mod_eq_of_lt (by omega)] at h1
  omega

theorem RingAt.push {ring : Array Value} {m g : Nat} {l : List It} (h : RingAt ring m g l) (hm : 1 ≤ m) (hs : ring.size = m * 4) (hl : l.length < m) (x : It) :
    RingAt (put4 ring ((g + l.length) % m * 4) x.a x.b x.c x.d) m g (l ++ [x]) := by
  intro i y hy
  have hlt : (g + l.length) % m < m := Nat.mod_lt _ (by omega)
  rcases Nat.lt_trichotomy i l.length with hi | hi | hi
  · rw [List.getElem?_append_left hi] at hy
    have hne : (g + i) % m ≠ (g + l.length) % m := place_ne hi (by omega)
    obtain ⟨h0, h1, h2, h3⟩ := h i y hy
    refine ⟨?_, ?_, ?_, ?_⟩
    · rw [put4_far _ _ _ _ _ _ _ (by omega)]; exact h0
    · rw [put4_far _ _ _ _ _ _ _ (by omega)]; exact h1
    · rw [put4_far _ _ _ _ _ _ _ (by omega)]; exact h2
    · rw [put4_far _ _ _ _ _ _ _ (by omega)]; exact h3
  · subst hi
    simp at hy
    subst hy
    exact put4_at _ _ _ _ _ _ (by omega)
  · rw [List.getElem?_eq_none (by simp; omega)] at hy
    cases hy

theorem RingAt.pop {ring : Array Value} {m g : Nat} {x : It} {l : List It} (h : RingAt ring m g (x :: l)) : RingAt ring m (g + 1) l := by
  intro i y hy
  have := h (i + 1) y (by simpa using hy)
  rwa [show g + (i + 1) = g + 1 + i from by omega] at this

theorem RingAt.nil (ring : Array Value) (m g : Nat) : RingAt ring m g [] := fun _ _ h => by simp at h

/-- An outbox at block b, its ring at block r, room for m; c were pushed, g taken; l waits. -/
structure OB (w : World) (b r m c g : Nat) (l : List It) (ring : Array Value) : Prop where
  box : Blk w b 49 #[.slice (some ⟨r, 0, none⟩) m m, .int .i64 c, .int .i64 g]
  row : Blk w r 30 ring
  size : ring.size = m * 4
  came : c = g + l.length
  fits : l.length ≤ m
  lo : 1 ≤ m
  hi : m ≤ 1000
  at_ : RingAt ring m g l

section
variable {w w' : World} {b r m c g : Nat} {l : List It} {ring : Array Value}
theorem OB.ne_ (h : OB w b r m c g l ring) : b ≠ r := h.box.ne_ h.row (by decide)
theorem OB.keep {S : Nat → Prop} (h : OB w b r m c g l ring) (ho : Only S w w') (hb : ¬ S b) (hr : ¬ S r) : OB w' b r m c g l ring :=
  ⟨ho.blk h.box hb, ho.blk h.row hr, h.size, h.came, h.fits, h.lo, h.hi, h.at_⟩
theorem OB.alloc (h : OB w b r m c g l ring) (o : Obj) : OB (w.alloc o) b r m c g l ring := ⟨h.box.alloc o, h.row.alloc o, h.size, h.came, h.fits, h.lo, h.hi, h.at_⟩
theorem OB.drew (h : OB w b r m c g l ring) : OB w.drew b r m c g l ring := ⟨h.box, h.row, h.size, h.came, h.fits, h.lo, h.hi, h.at_⟩
theorem OB.drewN (h : OB w b r m c g l ring) (n : Nat) : OB (w.drewN n) b r m c g l ring := ⟨h.box, h.row, h.size, h.came, h.fits, h.lo, h.hi, h.at_⟩
end

theorem push_ok (b r m c g : Nat) (l : List It) (ring : Array Value) (x0 x1 x2 x3 : Int) (w : World) (h : OB w b r m c g l ring) (hc : c ≤ 1073741824) (hl : l.length < m) :
    Calls Try.prog 11 #[.pointer (some ⟨b, 0, none⟩), .agg #[.int .i64 x0, .int .i64 x1, .int .i64 x2, .int .i64 x3]] w fun e w' => e = .returned (.int .i64 0) ∧
      OB w' b r m (c + 1) g (l ++ [⟨x0, x1, x2, x3⟩]) (put4 ring (c % m * 4) x0 x1 x2 x3) ∧ Only (fun k => k = b ∨ k = r) w w' := by
  have hcame := h.came
  refine (push_made b r m c g x0 x1 x2 x3 ring w h.lo h.hi h.box h.row h.size (by omega) hc (by omega)).mono ?_
  rintro e w' ⟨he, hb, hr, ho⟩
  refine ⟨he, ⟨hb, hr, by rw [put4_size]; exact h.size, by simp; omega, by simp; omega, h.lo, h.hi, ?_⟩, ho⟩
  have := h.at_.push h.lo h.size hl ⟨x0, x1, x2, x3⟩
  rw [← hcame] at this
  exact this

theorem push_full (b r m c g : Nat) (l : List It) (ring : Array Value) (x0 x1 x2 x3 : Int) (w : World) (h : OB w b r m c g l ring) (hc : c ≤ 1073741824) (hl : l.length = m) :
    Calls Try.prog 11 #[.pointer (some ⟨b, 0, none⟩), .agg #[.int .i64 x0, .int .i64 x1, .int .i64 x2, .int .i64 x3]] w fun e w' => e = .returned (.int .i64 15) ∧ Kept w w' := by
  have hcame := h.came
  have hlo := h.lo
  have hhi := h.hi
  have H := Lib.hid h
  clear h
  have hz : ((m : Int) - ((c : Int) - (g : Int)) == 0) = true := by rw [beq_iff_eq]; omega
  have HL := Lib.hid hl
  have HC := Lib.hid hcame
  clear hl hcame
  go_enter Try.func11, Try.ntmps11
  go_wp2_with (first | (go_at_call 28; refine (none_made b r m c g _ hlo (H.out.alloc _).box).mono ?_; rintro e w' ⟨rfl, rfl⟩) | (go_at_call 25; refine (room_made b r m c g _ hlo hhi (H.out.alloc _).box (by omega) (by have := HC.out; omega) (by omega) (by have := HC.out; have := HL.out; omega)).mono ?_; rintro e w' ⟨rfl, n1, rfl⟩))
  go_ret
  exact ⟨rfl, ((Only.refl _ _).alloc _).drewN _⟩

end Go.Proofs.Ytoohkcboidamnaa

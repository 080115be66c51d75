/- A heap in a list, by an integer for each element: plain Lean. -/
import Derived.Test.YtjfbanemjceimaaBase
namespace Go.Proofs.Ytjfbanemjceimaa
set_option linter.unusedVariables false
set_option linter.unusedSimpArgs false
set_option linter.unnecessarySimpa false

def HeapF (f : Nat → Int) (n : Nat) : Prop := ∀ k, 0 < k → k < n → f ((k - 1) / 2) ≤ f k
def DownF (f : Nat → Int) (n i : Nat) : Prop := (∀ k, 0 < k → k < n → (k - 1) / 2 ≠ i → f ((k - 1) / 2) ≤ f k) ∧ (0 < i → ∀ k, 0 < k → k < n → (k - 1) / 2 = i → f ((i - 1) / 2) ≤ f k)
def UpF (f : Nat → Int) (n j : Nat) : Prop := (∀ k, 0 < k → k < n → k ≠ j → f ((k - 1) / 2) ≤ f k) ∧ (0 < j → ∀ k, 0 < k → k < n → (k - 1) / 2 = j → f ((j - 1) / 2) ≤ f k)
def swF (f : Nat → Int) (i j : Nat) : Nat → Int := fun k => if k = j then f i else if k = i then f j else f k

theorem down_step {f : Nat → Int} {n i j : Nat} (h : DownF f n i) (hj : j < n) (hc : j = 2 * i + 1 ∨ j = 2 * i + 2) (hm : ∀ k, k < n → (k = 2 * i + 1 ∨ k = 2 * i + 2) → f j ≤ f k) (hlt : f j < f i) : DownF (swF f i j) n j := by
  refine ⟨fun k h0 hk hp => ?_, fun h0 k k0 hk hp => ?_⟩
  · by_cases e1 : k = i
    · subst e1
      have a1 : ¬ k = j := by omega
      have a2 : ¬ (k - 1) / 2 = k := by omega
      have := h.2 h0 j (by omega) hj (by omega)
      simp only [swF, if_neg a1, if_neg hp, if_neg a2, if_true]
      exact this
    · by_cases e2 : k = j
      · subst e2
        have a1 : (k - 1) / 2 = i := by omega
        have a2 : ¬ i = k := by omega
        simp only [swF, a1, if_neg a2, if_true]
        omega
      · by_cases e3 : (k - 1) / 2 = i
        · have a2 : ¬ i = j := by omega
          have := hm k hk (by omega)
          simp only [swF, e3, if_neg a2, if_neg e1, if_neg e2, if_true]
          exact this
        · simp only [swF, if_neg e1, if_neg e2, if_neg e3, if_neg hp]
          exact h.1 k h0 hk e3
  · have a1 : (j - 1) / 2 = i := by omega
    have a2 : ¬ i = j := by omega
    have a3 : ¬ k = j := by omega
    have a4 : ¬ k = i := by omega
    simp only [swF, a1, if_neg a2, if_neg a3, if_neg a4, if_true]
    have := h.1 k k0 hk (by omega)
    rw [hp] at this
    exact this

theorem down_end {f : Nat → Int} {n i : Nat} (h : DownF f n i) (hm : ∀ k, k < n → (k = 2 * i + 1 ∨ k = 2 * i + 2) → f i ≤ f k) : HeapF f n := fun k h0 hk => by
  by_cases e : (k - 1) / 2 = i
  · rw [e]; exact hm k hk (by omega)
  · exact h.1 k h0 hk e

theorem up_step {f : Nat → Int} {n j : Nat} (h : UpF f n j) (h0 : 0 < j) (hj : j < n) (hlt : f j < f ((j - 1) / 2)) : UpF (swF f ((j - 1) / 2) j) n ((j - 1) / 2) := by
  obtain ⟨i, hi⟩ : ∃ i, (j - 1) / 2 = i := ⟨_, rfl⟩
  rw [hi] at hlt ⊢
  have hij : ¬ i = j := by omega
  refine ⟨fun k k0 hk hp => ?_, fun i0 k k0 hk hp => ?_⟩
  · by_cases e1 : k = j
    · subst e1
      simp only [swF, hi, if_neg hij, if_true]
      omega
    · by_cases e2 : (k - 1) / 2 = j
      · have := h.2 h0 k k0 hk e2
        simp only [swF, e2, if_neg e1, if_neg hp, if_true]
        rw [hi] at this
        exact this
      · by_cases e3 : (k - 1) / 2 = i
        · have := h.1 k k0 hk e1
          rw [e3] at this
          simp only [swF, e3, if_neg hij, if_neg e1, if_neg hp, if_true]
          omega
        · simp only [swF, if_neg e1, if_neg e2, if_neg e3, if_neg hp]
          exact h.1 k k0 hk e1
  · have a1 : ¬ (i - 1) / 2 = j := by omega
    have a2 : ¬ (i - 1) / 2 = i := by omega
    have hpi := h.1 i i0 (by omega) hij
    by_cases e1 : k = j
    · subst e1
      simp only [swF, if_neg a1, if_neg a2, if_true]
      exact hpi
    · have a3 : ¬ k = i := by omega
      have := h.1 k k0 hk e1
      rw [hp] at this
      simp only [swF, if_neg a1, if_neg a2, if_neg e1, if_neg a3]
      omega

theorem up_end {f : Nat → Int} {n j : Nat} (h : UpF f n j) (hm : 0 < j → f ((j - 1) / 2) ≤ f j) : HeapF f n := fun k h0 hk => by
  by_cases e : k = j
  · subst e; exact hm h0
  · exact h.1 k h0 hk e

theorem heap_least {f : Nat → Int} {n : Nat} (h : HeapF f n) : ∀ k, k < n → f 0 ≤ f k := by
  intro k
  induction k using Nat.strongRecOn with
  | ind k ih =>
    intro hk
    by_cases e : k = 0
    · subst e; exact Int.le_refl _
    · exact Int.le_trans (ih ((k - 1) / 2) (by omega) (by omega)) (h k (by omega) hk)

theorem down_start {f : Nat → Int} {n : Nat} (h : HeapF f (n + 1)) : DownF (swF f 0 n) n 0 := by
  refine ⟨fun k h0 hk hp => ?_, fun h0 => absurd h0 (by omega)⟩
  have a1 : ¬ k = n := by omega
  have a2 : ¬ k = 0 := by omega
  have a3 : ¬ (k - 1) / 2 = n := by omega
  simp only [swF, if_neg a1, if_neg a2, if_neg a3, if_neg hp]
  exact h k h0 (by omega)

theorem up_start {f g : Nat → Int} {n : Nat} (h : HeapF f n) (hg : ∀ k, k < n → g k = f k) : UpF g (n + 1) n := by
  refine ⟨fun k h0 hk hp => ?_, fun h0 k k0 hk hp => absurd hp (by omega)⟩
  rw [hg k (by omega), hg ((k - 1) / 2) (by omega)]
  exact h k h0 (by omega)

theorem heap_of_eq {f g : Nat → Int} {n : Nat} (h : HeapF f n) (hg : ∀ k, k < n → g k = f k) : HeapF g n := fun k h0 hk => by
  rw [hg k hk, hg ((k - 1) / 2) (by omega)]
  exact h k h0 hk

section
variable {α : Type} (key : α → Int)

/-- The integer of the element at i. -/
def kk (l : List α) (i : Nat) : Int := ((l[i]?).map key).getD 0
def Heap (l : List α) : Prop := HeapF (kk key l) l.length

/-- Two elements exchanged. -/
def swp (l : List α) (i j : Nat) : List α := match l[i]?, l[j]? with
  | some x, some y => (l.set i y).set j x
  | _, _ => l

theorem swp_eq (l : List α) {i j : Nat} (hi : i < l.length) (hj : j < l.length) : swp l i j = (l.set i l[j]).set j l[i] := by
  simp [swp, hi, hj]

theorem swp_length (l : List α) (i j : Nat) : (swp l i j).length = l.length := by
  unfold swp; split <;> simp

theorem swp_get (l : List α) {i j : Nat} (hi : i < l.length) (hj : j < l.length) (k : Nat) : (swp l i j)[k]? = if k = j then l[i]? else if k = i then l[j]? else l[k]? := by
  rw [swp_eq l hi hj]
  by_cases h1 : k = j
  · subst h1; simp [hi, hj]
  · by_cases h2 : k = i
    · subst h2
      rw [List.getElem?_set_ne (fun e => h1 e.symm)]
      simp [h1, hi, hj]
    · rw [List.getElem?_set_ne (fun e => h1 e.symm), List.getElem?_set_ne (fun e => h2 e.symm)]
      simp [h1, h2]

theorem kk_swp (l : List α) {i j : Nat} (hi : i < l.length) (hj : j < l.length) : kk key (swp l i j) = swF (kk key l) i j := by
  funext k
  unfold kk swF
  rw [swp_get l hi hj]
  split
  · rfl
  · split <;> rfl

theorem swp_perm (l : List α) (i j : Nat) : (swp l i j).Perm l := by
  unfold swp
  split
  · rename_i x y hx hy
    obtain ⟨hi, rfl⟩ := List.getElem?_eq_some_iff.1 hx
    obtain ⟨hj, rfl⟩ := List.getElem?_eq_some_iff.1 hy
    have := Array.swap_perm (xs := l.toArray) (i := i) (j := j) (by simpa using hi) (by simpa using hj)
    have := this.toList
    simpa [Array.swap_def] using this
  · exact List.Perm.refl _

/-- What is left when the last one is taken off, the heap's least one having been put there. -/
theorem pop_perm {l l2 : List α} {n : Nat} {x : α} (hl : l.length = n + 1) (hx : l[0]? = some x) (hp : l2.Perm (swp l 0 n)) (hn : l2[n]? = (swp l 0 n)[n]?) : (x :: l2.take n).Perm l := by
  have hl2 : l2.length = n + 1 := by rw [hp.length_eq, swp_length, hl]
  have h0 : l2[n]? = some x := by rw [hn, swp_get l (by omega) (by omega)]; simpa using hx
  have e : l2 = l2.take n ++ [x] := by
    have : l2.take (n + 1) = l2.take n ++ [x] := by rw [List.take_add_one, h0]; rfl
    rw [List.take_of_length_le (by omega)] at this
    exact this
  have h1 : (x :: l2.take n).Perm (l2.take n ++ [x]) := (List.perm_append_comm (l₁ := [x]) (l₂ := l2.take n))
  exact (h1.trans (by rw [← e])).trans (hp.trans (swp_perm l 0 n))

theorem kk_take (l : List α) {n k : Nat} (h : k < n) : kk key (l.take n) k = kk key l k := by
  unfold kk; rw [List.getElem?_take, if_pos h]

theorem heap_take {l : List α} {n : Nat} (h : HeapF (kk key l) n) : Heap key (l.take n) := by
  unfold Heap
  have hle : (l.take n).length ≤ n := by simp; omega
  intro k h0 hk
  rw [kk_take key l (by omega), kk_take key l (by omega)]
  exact h k h0 (by omega)

theorem kk_at {l : List α} {k : Nat} {x : α} (h : l[k]? = some x) : kk key l k = key x := by unfold kk; rw [h]; rfl
end
end Go.Proofs.Ytjfbanemjceimaa

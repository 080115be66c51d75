/- Held; victims; Victim. -/
import Derived.Test.YtflljldmcidhgaaChk
namespace Go.Proofs.Ytflljldmcidhgaa
open Go.RowKit Go.Shelf
set_option linter.unusedVariables false
set_option linter.unusedSimpArgs false
set_option linter.unnecessarySimpa false

/-- All frames. -/
def sumfr (hs : List Hd) : Int := (hs.map Hd.fr).sum

theorem sumfr_snoc (l : List Hd) (x : Hd) : sumfr (l ++ [x]) = sumfr l + x.fr := by
  simp [sumfr]

theorem sumfr_bound {hs : List Hd} {k : Nat} (h : Pfx hs k) : ∀ j, j ≤ k → j ≤ hs.length → 0 ≤ sumfr (hs.take j) ∧ sumfr (hs.take j) ≤ 64 * j
  | 0, _, _ => by simp [sumfr]
  | j + 1, h1, h2 => by
    have ih := sumfr_bound h j (by omega) (by omega)
    have hj := (h j hs[j] (by omega) (List.getElem?_eq_getElem (by omega))).1
    rw [List.take_succ_eq_append_getElem (by omega), sumfr_snoc]
    omega

open Classical in
noncomputable def heldv (hs : List Hd) : Int := if Good hs then sumfr hs else 0

set_option maxRecDepth 100000 in
set_option maxHeartbeats 2000000 in
theorem held_calls (A : Option Addr) (n c : Nat) (hs : List Hd) (w : World) (hn : hs.length = n) (hb : n ≤ 9223372036854775807) (hL : Hs w A hs) :
    Calls Try.prog 16 #[.slice A n c] w fun e w' => e = .returned (.int .i64 (heldv hs)) ∧ Kept w w' := by
  have hck := check_calls A n c hs w hn hb hL
  by_cases hg : Good hs
  · rw [chk_good hg] at hck
    have hv : heldv hs = sumfr hs := by unfold heldv; rw [if_pos hg]
    have hsb := sumfr_bound hg.2
    have h64 := hg.1
    rw [hn] at h64
    rw [hv]
    have HC := Lib.hid hck
    have HN := Lib.hid hn
    have HL := Lib.hid hL
    have HSB := Lib.hid hsb
    clear hck hv hn hL hsb hg
    go_enter Try.func16, Try.ntmps16
    go_wp2_with fail
    refine HC.out.mono ?_
    rintro e w1 ⟨rfl, hk1⟩
    have HK1 := Lib.hid hk1
    clear hk1
    go_wp2_with fail
    go_loopw [3, 11] (fun u v wr => ∃ k : Nat, v = .int .i64 k ∧ k ≤ n ∧ u = .int .i64 (sumfr (hs.take k)) ∧ Kept w wr) (fun _ v _ => n - (intOf v).toNat)
    case atStart => exact ⟨0, rfl, by omega, by simp [sumfr], HK1.out⟩
    case round =>
      obtain ⟨k, rfl, hk, rfl, hkp⟩ := hrel
      have HK := Lib.hid hkp
      obtain ⟨s0, s1⟩ := HSB.out k (by rw [HN.out]; exact hk) (by rw [HN.out]; exact hk)
      by_cases hlt : k < n
      · obtain ⟨x, hx⟩ : ∃ x, hs[k]? = some x := ⟨_, List.getElem?_eq_getElem (by rw [HN.out]; exact hlt)⟩
        obtain ⟨g, o, hA, hg, hc⟩ := HL.out (by rintro rfl; simp at hx)
        subst hA
        obtain ⟨c1, c2⟩ := hc k x hx
        have d1 := kept_cell hkp c1
        have d2 := kept_cell hkp c2
        have hs2 : sumfr (hs.take (k + 1)) = sumfr (hs.take k) + x.fr := by
          obtain ⟨hk', hxe⟩ := List.getElem?_eq_some_iff.1 hx
          rw [List.take_succ_eq_append_getElem hk', hxe, sumfr_snoc]
        obtain ⟨s2, s3⟩ := HSB.out (k + 1) (by rw [HN.out]; exact hlt) (by rw [HN.out]; exact hlt)
        rw [hs2] at s2 s3
        have HS2 := Lib.hid hs2
        have HK1 := Lib.hid (hkp.alloc (.cells #[.int .i64 x.id, .int .i64 x.fr] 41))
        clear hkp hx hc c1 c2 hs2
        go_wp2_with fail
        go_roundw
        case rel => exact ⟨k + 1, by go_num, by omega, by rw [HS2.out], HK1.out⟩
        case measure => simp [intOf]; omega
      · obtain rfl : n = k := by omega
        clear hkp
        go_wp2_with fail
        go_ret
        exact ⟨by (rw [List.take_of_length_le (by rw [HN.out]; exact Nat.le_refl _)]) <;> rfl, HK.out⟩
  · rw [chk_bad hg] at hck
    have hv : heldv hs = 0 := by unfold heldv; rw [if_neg hg]
    rw [hv]
    have HC := Lib.hid hck
    clear hck hv hn hL hg
    go_enter Try.func16, Try.ntmps16
    go_wp2_with fail
    refine HC.out.mono ?_
    rintro e w1 ⟨rfl, hk1⟩
    have HK1 := Lib.hid hk1
    clear hk1
    go_wp2_with fail
    go_ret
    exact ⟨rfl, HK1.out⟩

theorem victims_calls (A : Option Addr) (n c : Nat) (w : World) :
    Calls Try.prog 26 #[.slice A n c] w fun e w' => e = .returned (.func (.func 29) #[] #[.pointer (some ⟨w.heap.size, 0, none⟩)]) ∧ w.alloc (.cells #[.slice A n c] 22) = w' := by
  go_enter Try.func26, Try.ntmps26
  go_wp2_with fail
  go_ret
  exact ⟨rfl, rfl⟩

/-- The numbers of the first victim, and the error. -/
def first1 (V : List Hd) : Int × Int := match V with
  | [] => (0, 16)
  | x :: _ => (x.id, 0)

theorem calm_blk {B q : Nat} {X X' : World} {t : TypeId} {cs : Array Value} (h : Blk X q t cs) (ht : t ≠ 41 ∧ t ≠ 50) (ho : Only (IT B X) X X') : Blk X' q t cs :=
  ho.blk h (fun e => by
    obtain ⟨_, cs', t', h', ht'⟩ := e
    unfold Blk at h h'
    rw [h] at h'
    injection h' with h'
    injection h' with _ h'
    rcases ht' with e | e
    · exact ht.1 (h'.trans e)
    · exact ht.2 (h'.trans e))

theorem put_blk {q k : Nat} {X : World} {t : TypeId} {cs : Array Value} {o o' : Obj} (h : Blk X q t cs) (hk : X.heap[k]? = some o) (hc : o.isCells = false) : Blk (X.putObj k o') q t cs :=
  (World.putObj_heap_other (by
    rintro rfl
    unfold Blk at h
    rw [hk] at h
    cases h
    cases hc)).trans h

theorem calm_kept {B : Nat} {w X X' : World} (h : Kept w X) (hB : w.heap.size ≤ B) (ho : Only (IT B X) X X') : Kept w X' := h.trans' ho (fun q hq e => by have := e.1; omega)

theorem put_kept {k : Nat} {w X : World} (h : Kept w X) (hk : w.heap.size ≤ k) (o' : Obj) : Kept w (X.putObj k o') :=
  ⟨h.os, h.tape, h.output, by have := h.size; simpa using this, fun i hi hn => (World.putObj_heap_other (by omega)).trans (h.block i hi hn)⟩

/-- Whoever is let in is a holder, as the heap wants them. -/
theorem good_ok {hs : List Hd} (h : Good hs) (hb : ∀ x ∈ hs, x.id ≤ 9223372036854775807) : ∀ x ∈ hs, Hok x := fun x hx => by
  obtain ⟨k, hk⟩ := List.mem_iff_getElem?.1 hx
  have := (h.2 k x (List.getElem?_eq_some_iff.1 hk).1 hk).1
  exact ⟨this.1, hb x hx, this.2.1, this.2.2⟩

theorem victim_bad (A : Option Addr) (n c : Nat) (hs : List Hd) (w : World) (hn : hs.length = n) (hb : n ≤ 9223372036854775807) (hL : Hs w A hs) (hg : ¬ Good hs) :
    Calls Try.prog 9 #[.slice A n c] w fun e w' => e = .returned (.tuple #[.int .i64 0, .int .i64 2]) ∧ Kept w w' := by
  have hck := check_calls A n c hs ((w.alloc (.cells #[.int .i64 0] 3)).alloc (.cells #[.int .i64 0] 24)) hn hb (hL.kept (((Only.refl (fun _ => False) w).alloc _).alloc _))
  rw [chk_bad hg] at hck
  have HC := Lib.hid hck
  clear hck hn hL hg
  go_enter Try.func9, Try.ntmps9
  go_wp2_with fail
  refine HC.out.mono ?_
  rintro e w1 ⟨rfl, hk1⟩
  have B2 := hk1.blk ((Blk.new w 3 #[.int .i64 0]).alloc (.cells #[.int .i64 0] 24)) (fun f => f)
  have B3 := hk1.blk (Blk.new (w.alloc (.cells #[.int .i64 0] 3)) 24 #[.int .i64 0]) (fun f => f)
  have HK1 := Lib.hid ((((Only.refl (fun _ => False) w).alloc (.cells #[.int .i64 0] 3)).alloc (.cells #[.int .i64 0] 24)).trans hk1)
  simp only [World.size_alloc] at B3
  have k2 := B2.cell 0
  have k3 := B3.cell 0
  have f2 := B2.frozen 0
  have f3 := B3.frozen 0
  simp at k2 k3
  have q2 := (((B2.set_ 0 (.int .i64 0)).far' (q := w.heap.size + 1) (o := 0) (by omega) (.int .i64 2)).cell 0)
  have q3 := (((B3.far' (q := w.heap.size) (o := 0) (by omega) (.int .i64 0)).set_ 0 (.int .i64 2)).cell 0)
  simp at q2 q3
  have Q2 := Lib.hid q2
  have Q3 := Lib.hid q3
  clear hk1 B2 B3 q2 q3
  go_wp2_with fail
  have q2 := Q2.out
  have q3 := Q3.out
  refine bodyPost_ret (v := .tuple #[.int .i64 0, .int .i64 2]) ?_ rfl ⟨rfl, (HK1.out.setNew (by omega) _).setNew (by omega) _⟩
  simp [results, Try.results9, go_sem, q2, q3]
end Go.Proofs.Ytflljldmcidhgaa

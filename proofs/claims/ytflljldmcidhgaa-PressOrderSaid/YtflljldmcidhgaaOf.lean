/- Lists side by side; lists of holders typed out. -/
import Derived.Test.YtflljldmcidhgaaVs
namespace Go.Proofs.Ytflljldmcidhgaa
open Go.RowKit
set_option linter.unusedVariables false
set_option linter.unusedSimpArgs false
set_option linter.unnecessarySimpa false

set_option maxHeartbeats 1000000 in
theorem same_ints (A B : Option Addr) (n c c' : Nat) (xs : List Int) (w : World) (hn : n = xs.length) (hb : n ≤ 1073741824) (ha : Ints w A xs) (hB : Ints w B xs) :
    Calls Try.prog 13 #[.slice A n c, .slice B n c'] w fun e w' => e = .returned (.bool true) ∧ ∃ q, w' = w.drewN q := by
  have HN := Lib.hid hn
  have HA := Lib.hid ha
  have HB := Lib.hid hB
  clear hn ha hB
  go_enter Try.func13, Try.ntmps13
  go_wp2_with fail
  go_loopw [5] (fun v wr => ∃ k q : Nat, v = .int .i64 k ∧ k ≤ n ∧ wr = w.drewN q) (fun v _ => n - (intOf v).toNat)
  case atStart => exact ⟨0, 0, rfl, by omega, rfl⟩
  case round =>
    obtain ⟨k, q, rfl, hk, hw⟩ := hrel
    by_cases hlt : k < n
    · have hkx : k < xs.length := by rw [← HN.out]; exact hlt
      have hne : xs ≠ [] := by rintro rfl; simp at hkx
      obtain ⟨g1, o1, hA, _, h1⟩ := HA.out hne
      obtain ⟨g2, o2, hB, _, h2⟩ := HB.out hne
      subst hA hB
      have a0 := h1 k hkx
      have b0 := h2 k hkx
      obtain ⟨y, hy⟩ : ∃ y, xs.getD k 0 = y := ⟨_, rfl⟩
      rw [hy] at a0 b0
      have z0 : (0 : Int) ≤ (k : Int) := by omega
      have z1 : (k : Int) < (n : Int) := by omega
      subst hw
      clear HA HB HN h1 h2 hne hkx hy
      go_wp2_with fail
      go_quiet (fail)
      go_wp2_with fail
      go_roundw
      case rel => exact ⟨k + 1, _, by go_num, by omega, rfl⟩
      case measure => simp [intOf]; omega
    · subst hw
      go_wp2_with fail
      go_ret
      exact ⟨rfl, _, rfl⟩

/-- Numbers and frames in turn. -/
def nums (hs : List Hd) : List Int := hs.flatMap (fun x => [x.id, x.fr])

theorem nums_length (hs : List Hd) : (nums hs).length = hs.length * 2 := by
  unfold nums
  induction hs with
  | nil => rfl
  | cons x l ih => simp [ih]; omega

theorem nums_get : ∀ (hs : List Hd) (k : Nat) (x : Hd), hs[k]? = some x → (nums hs).getD (k * 2) 0 = x.id ∧ (nums hs).getD (k * 2 + 1) 0 = x.fr
  | [], k, x, h => by simp at h
  | y :: l, 0, x, h => by simp at h; subst h; simp [nums]
  | y :: l, k + 1, x, h => by
    have := nums_get l k x (by simpa using h)
    unfold nums at this ⊢
    rw [List.flatMap_cons, show (k + 1) * 2 = k * 2 + 2 by omega, show k * 2 + 2 + 1 = (k * 2 + 1) + 2 by omega]
    simpa using this

theorem hs_of_own {w : World} {base n c : Nat} {A : Option Addr} {hs : List Hd} (h : w.ownsRow base 41 2 (.slice A n c) n (hs.flatMap Hd.cells)) : Hs w A hs := by
  intro hne
  rcases h.2 with ⟨_, h2⟩ | ⟨g, cap, cur, h1, _, hg, _⟩
  · have := h.1
    rw [h2, hcells_length] at this
    cases hs with
    | nil => exact absurd rfl hne
    | cons x l => simp at this
  · simp only [Value.slice.injEq] at h1
    obtain ⟨rfl, _, _⟩ := h1
    refine ⟨g, 0, rfl, Blk.lt (w := w) hg, fun i x hx => ?_⟩
    have e0 := h.cells (g := g) rfl (i * 2 + 0) (.int .i64 x.id) (by rw [hflat_get hs i 0 x hx (by omega)]; rfl)
    have e1 := h.cells (g := g) rfl (i * 2 + 1) (.int .i64 x.fr) (by rw [hflat_get hs i 1 x hx (by omega)]; rfl)
    simp only [Addr.add_lit] at e0 e1
    exact ⟨e0, e1⟩

set_option maxRecDepth 100000 in
set_option maxHeartbeats 4000000 in
theorem of_calls (A : Option Addr) (n c : Nat) (hs : List Hd) (w : World) (hn : n = hs.length * 2) (hb : n ≤ 1000) (h : Ints w A (nums hs)) :
    Calls Try.prog 22 #[.slice A n c] w fun e w' => ∃ A' c', e = .returned (.slice A' hs.length c') ∧ w'.ownsRow w.heap.size 41 2 (.slice A' hs.length c') hs.length (hs.flatMap Hd.cells) ∧ Kept w w' := by
  obtain ⟨i0, hi, hz0, hz1, hz2⟩ := info_parts (show (Try.prog.info? 41).map (fun i => (i.zero, i.size, i.bytes)) = some (some (.agg #[.int .i64 0, .int .i64 0]), 2, 16) by kernel_rfl)
  obtain ⟨m, hm⟩ : ∃ m, hs.length = m := ⟨_, rfl⟩
  rw [hm] at hn ⊢
  have HM := Lib.hid hm
  have H := Lib.hid h
  have HN := Lib.hid hn
  have bn1 : n ≤ m * 2 := by omega
  have bn2 : m * 2 ≤ n := by omega
  clear hm h hn
  go_enter Try.func22, Try.ntmps22
  go_wp2_with fail
  go_loopw [3, 4] (fun u v wr => ∃ k : Nat, v = .int .i64 (k * 2 : Nat) ∧ k ≤ m ∧ wr.ownsRow w.heap.size 41 2 u k ((hs.take k).flatMap Hd.cells) ∧ Kept w wr) (fun _ v _ => n - (intOf v).toNat)
  case atStart => exact ⟨0, by simp, by omega, World.ownsRow_nil _ _ _ _, Only.refl _ _⟩
  case round =>
    obtain ⟨k, rfl, hk, ho, hkp⟩ := hrel
    obtain ⟨AI, cI, rfl⟩ := row_form ho
    have HK := Lib.hid hkp
    have HO := Lib.hid ho
    obtain ⟨J, hJ⟩ : ∃ J, k * 2 = J := ⟨_, rfl⟩
    rw [hJ]
    have bJ : k * 2 ≤ J := by omega
    have bJ2 : J ≤ k * 2 := by omega
    by_cases hlt : k < m
    · obtain ⟨x, hx⟩ : ∃ x, hs[k]? = some x := ⟨_, List.getElem?_eq_getElem (by rw [HM.out]; exact hlt)⟩
      obtain ⟨n1, n2⟩ := nums_get hs k x hx
      have hln := nums_length hs
      rw [HM.out] at hln
      obtain ⟨g, o, hA, hg, hc⟩ := H.out (by intro e; rw [e] at hln; simp at hln; omega)
      subst hA
      have c1 := hc (k * 2) (by omega)
      have c2 := hc (k * 2 + 1) (by omega)
      rw [n1, hJ] at c1
      rw [n2, hJ] at c2
      have d1 := kept_cell hkp c1
      have d2 := kept_cell hkp c2
      have z0 : (0 : Int) ≤ (J : Int) := by omega
      have z1 : (J : Int) < (n : Int) := by omega
      have z2 : IntKind.i64.wrap ((J : Int) + 1) = (J : Int) + 1 := by rw [IntKind.wrap_i64]; omega
      have z3 : (0 : Int) ≤ (J : Int) + 1 := by omega
      have z4 : (J : Int) + 1 < (n : Int) := by omega
      have z5 : ((J : Int) + 1).toNat = J + 1 := by omega
      have hts : hs.take (k + 1) = hs.take k ++ [x] := by
        obtain ⟨hk', hxe⟩ := List.getElem?_eq_some_iff.1 hx
        rw [List.take_succ_eq_append_getElem hk', hxe]
      have HTS := Lib.hid hts
      have HOW1 := Lib.hid (show ((wr.alloc (.cells #[.int .i64 x.id, .int .i64 x.fr] 41)).drew).ownsRow w.heap.size 41 2 (.slice AI k cI) k ((hs.take k).flatMap Hd.cells) from ho.alloc _)
      have HNW := Lib.hid (show ∀ j u, x.cells[j]? = some u → ((wr.alloc (.cells #[.int .i64 x.id, .int .i64 x.fr] 41)).drew).cell? ((⟨wr.heap.size, 0, none⟩ : Addr).add j) = some u from hcells_new wr x 41)
      have hsz := hkp.size
      have HBS := Lib.hid (show w.heap.size ≤ ((wr.alloc (.cells #[.int .i64 x.id, .int .i64 x.fr] 41)).drew).heap.size by show w.heap.size ≤ (wr.alloc _).heap.size; simp; omega)
      have hml : k + 1 ≤ maxLen := by unfold maxLen; omega
      have hml2 : (k + 1) * 16 ≤ 140737488355328 := by omega
      have HKA := Lib.hid ((hkp.alloc (.cells #[.int .i64 x.id, .int .i64 x.fr] 41)).drew)
      have HJ := Lib.hid hJ
      have hlw := cell_lt d1
      simp only at hlw
      clear ho hkp hx hc c1 c2 hts hln n1 n2 hJ
      go_wp2_with fail
      go_region_law (refine step_append_lies _ rfl (.tmp 12) (.tmp 23) 22 rfl w.heap.size 41 i0 (.agg #[.int .i64 0, .int .i64 0]) 2 16 Try.underlying22 hi hz0 hz1 hz2 rfl Nat.two_pos (.slice AI k cI) k ((hs.take k).flatMap Hd.cells) rfl HOW1.out ⟨wr.heap.size, 0, none⟩ 1 1 x.cells rfl rfl HNW.out (h_oneCell x) Nat.one_pos hml hml2 HBS.out _ rfl ?_; intro g5 cap5 w5 hown5 hgrow5 hat5 hlt5; have HO5 := Lib.hid hown5; have HK5 := Lib.hid (kept_grown HKA.out HOW1.out (Nat.le_refl _) hgrow5); clear hown5 hgrow5 hat5)
      all_goals
        go_wp2_with fail
        go_roundw
        case rel =>
          refine ⟨k + 1, by rw [show (k + 1) * 2 = J + 2 by have := HJ.out; omega]; go_num, by omega, ?_, HK5.out⟩
          rw [HTS.out, List.flatMap_append]
          simpa using HO5.out
        case measure => simp [intOf]; omega
    · obtain rfl : m = k := by omega
      have z9 : ¬ (J : Int) + 1 < (n : Int) := by omega
      clear ho hkp hJ
      go_wp2_with fail
      go_ret
      have h1 := HO.out
      rw [List.take_of_length_le (by rw [HM.out]; exact Nat.le_refl _)] at h1
      exact ⟨AI, cI, rfl, h1, HK.out⟩
end Go.Proofs.Ytflljldmcidhgaa

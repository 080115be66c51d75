/- The document's answer: Victim, Held; lists side by side, written over. -/
import Derived.Test.YtflljldmcidhgaaRf
namespace Go.Proofs.Ytflljldmcidhgaa
open Go.RowKit
set_option linter.unusedVariables false
set_option linter.unusedSimpArgs false
set_option linter.unnecessarySimpa false

/-- Nobody holds anything. -/
theorem best_none {hs : List Hd} {n : Nat} (hn : hs.length = n) (h : Best hs n (-1)) : vics hs = [] := by
  rcases h with ⟨_, h⟩ | ⟨j, x, h, _⟩
  · apply List.eq_nil_iff_forall_not_mem.2
    intro y hy
    obtain ⟨h1, h2⟩ := vics_mem.1 hy
    obtain ⟨i, hi⟩ := List.mem_iff_getElem?.1 h1
    exact h i y (by rw [← hn]; exact (List.getElem?_eq_some_iff.1 hi).1) hi h2
  · omega

/-- The list behind the first one's end. -/
theorem vics_pop {hs : List Hd} {k : Nat} {x : Hd} (hg : Good hs) (hb : ∀ x ∈ hs, x.id ≤ 9223372036854775807) (hx : hs[k]? = some x) (hf : 0 < x.fr) (hle : ∀ y ∈ hs, 0 < y.fr → kh x ≤ kh y) :
    vics hs = x :: vics (hs.set k ⟨x.id, 0⟩) ∧ Good (hs.set k ⟨x.id, 0⟩) ∧ (∀ y ∈ hs.set k ⟨x.id, 0⟩, y.id ≤ 9223372036854775807) := by
  obtain ⟨hk, rfl⟩ := List.getElem?_eq_some_iff.1 hx
  have hsplit : hs = hs.take k ++ hs[k] :: hs.drop (k + 1) := by rw [← List.drop_eq_getElem_cons hk, List.take_append_drop]
  have hset : hs.set k ⟨hs[k].id, 0⟩ = hs.take k ++ ⟨hs[k].id, 0⟩ :: hs.drop (k + 1) := by
    rw [List.set_eq_take_append_cons_drop, if_pos hk]
  have hids : (hs.set k ⟨hs[k].id, 0⟩).map Hd.id = hs.map Hd.id := by
    rw [hset]
    conv => rhs; rw [hsplit]
    rw [List.map_append, List.map_cons, List.map_append, List.map_cons]
  have hb' : ∀ y ∈ hs.set k ⟨hs[k].id, 0⟩, y.id ≤ 9223372036854775807 := by
    intro y hy
    have h1 : y.id ∈ (hs.set k ⟨hs[k].id, 0⟩).map Hd.id := List.mem_map.2 ⟨y, hy, rfl⟩
    rw [hids] at h1
    obtain ⟨z, hz, he⟩ := List.mem_map.1 h1
    rw [← he]
    exact hb z hz
  have hg' : Good (hs.set k ⟨hs[k].id, 0⟩) := by
    rw [Good.iff] at hg ⊢
    refine ⟨by simpa using hg.1, fun y hy => ?_, by rw [hids]; exact hg.2.2⟩
    rcases List.mem_or_eq_of_mem_set hy with h | h
    · exact hg.2.1 y h
    · subst h
      exact ⟨(hg.2.1 _ (List.getElem_mem hk)).1, by simp, by simp⟩
  refine ⟨?_, hg', hb'⟩
  have hperm : (full hs).Perm (hs[k] :: full (hs.set k ⟨hs[k].id, 0⟩)) := by
    rw [hset]
    conv => lhs; rw [hsplit]
    unfold full
    rw [List.filter_append, List.filter_append, List.filter_cons, if_pos (by simpa using hf), List.filter_cons, if_neg (by simp)]
    exact List.perm_middle
  have hkeys := (good_keys hg hb).filter (fun x : Hd => decide (0 < x.fr))
  have hkeys2 := (List.Perm.pairwise_iff (fun {a b} h e => h e.symm) hperm).1 hkeys
  refine sorted_eq _ _ (vics_sorted hg hb) (List.pairwise_cons.2 ⟨fun y hy => ?_, vics_sorted hg' hb'⟩) (((vics_perm hs).symm.trans hperm).trans ((vics_perm _).cons _))
  have hy1 : y ∈ full (hs.set k ⟨hs[k].id, 0⟩) := (vics_perm _).mem_iff.2 hy
  have hne := (List.pairwise_cons.1 hkeys2).1 y hy1
  have hy2 : y ∈ full hs := hperm.mem_iff.2 (List.mem_cons_of_mem _ hy1)
  unfold full at hy2
  obtain ⟨m1, m2⟩ := List.mem_filter.1 hy2
  have := hle y m1 (by simpa using m2)
  omega

theorem best_some {hs : List Hd} {n j : Nat} (hn : hs.length = n) (h : Best hs n (j : Int)) : ∃ x, hs[j]? = some x ∧ 0 < x.fr ∧ ∀ y ∈ hs, 0 < y.fr → kh x ≤ kh y := by
  rcases h with ⟨h, _⟩ | ⟨j', x, h, hj, hx, hf, hle⟩
  · omega
  · obtain rfl : j = j' := by omega
    refine ⟨x, hx, hf, fun y hy hyf => ?_⟩
    obtain ⟨i, hi⟩ := List.mem_iff_getElem?.1 hy
    exact hle i y (by rw [← hn]; exact (List.getElem?_eq_some_iff.1 hi).1) hi hyf

theorem best_cases {hs : List Hd} {n : Nat} {r : Int} (h : Best hs n r) : r = -1 ∨ ∃ j : Nat, r = j ∧ j < n := by
  rcases h with ⟨h, _⟩ | ⟨j, x, h, hj, _⟩
  · exact .inl h
  · exact .inr ⟨j, h, hj⟩

set_option maxRecDepth 100000 in
set_option maxHeartbeats 4000000 in
theorem rvictim_calls (A : Option Addr) (n c : Nat) (hs : List Hd) (w : World) (hn : hs.length = n) (hb : n ≤ 9223372036854775807) (hL : Hs w A hs) (hbd : ∀ x ∈ hs, x.id ≤ 9223372036854775807) :
    Calls Try.prog 10 #[.slice A n c] w fun e w' => e = .returned (.tuple #[.int .i64 (victimv hs).1, .int .i64 (victimv hs).2]) ∧ Kept w w' := by
  have hck := rcheck_calls A n c hs w hn hb hL
  by_cases hg : Good hs
  · rw [chk_good hg] at hck
    have hv : victimv hs = first1 (vics hs) := by unfold victimv; rw [if_pos hg]
    have h64 := hg.1
    rw [hn] at h64
    have HC := Lib.hid hck
    have HN := Lib.hid hn
    have HL := Lib.hid hL
    have HV := Lib.hid hv
    have HG := Lib.hid hg
    have HB := Lib.hid hbd
    clear hck hn hL hv hg hbd
    go_enter Try.func10, Try.ntmps10
    go_wp2_with fail
    refine HC.out.mono ?_
    rintro e w1 ⟨rfl, hk1⟩
    have HK1 := Lib.hid hk1
    clear hk1
    go_wp2_with fail
    refine (first_calls A n c hs w1 HN.out (by omega) (HL.out.kept HK1.out) (good_ok HG.out HB.out)).mono ?_
    rintro e w2 ⟨r, rfl, hbest, q, rfl⟩
    rcases best_cases hbest with rfl | ⟨j, rfl, hj⟩
    · have HE := Lib.hid (best_none HN.out hbest)
      clear hbest
      go_wp2_with fail
      go_returns
      exact ⟨by rw [HV.out, HE.out]; rfl, HK1.out.drewN q⟩
    · obtain ⟨x, hx, hf, hle⟩ := best_some HN.out hbest
      obtain ⟨g, o, hA, _, hc⟩ := HL.out (by rintro rfl; simp at hx)
      subst hA
      obtain ⟨c1, _⟩ := hc j x hx
      have d1 := kept_cell (HK1.out.drewN q) c1
      have HE := Lib.hid (vics_pop HG.out HB.out hx hf hle).1
      have z1 : (0 : Int) ≤ (j : Int) := by omega
      have z2 : (j : Int) < (n : Int) := by omega
      clear hbest hx hf hle hc c1
      go_wp2_with fail
      go_returns
      exact ⟨by rw [HV.out, HE.out]; rfl, HK1.out.drewN q⟩
  · rw [chk_bad hg] at hck
    have hv : victimv hs = (0, 2) := by unfold victimv; rw [if_neg hg]
    have HC := Lib.hid hck
    have HV := Lib.hid hv
    clear hck hn hL hv hg hbd
    go_enter Try.func10, Try.ntmps10
    go_wp2_with fail
    refine HC.out.mono ?_
    rintro e w1 ⟨rfl, hk1⟩
    have HK1 := Lib.hid hk1
    clear hk1
    go_wp2_with fail
    go_returns
    exact ⟨by (rw [HV.out]) <;> rfl, HK1.out⟩

set_option maxRecDepth 100000 in
set_option maxHeartbeats 4000000 in
theorem rheld_calls (A : Option Addr) (n c : Nat) (hs : List Hd) (w : World) (hn : hs.length = n) (hb : n ≤ 1000) (hL : Hs w A hs) :
    Calls Try.prog 17 #[.slice A n c] w fun e w' => e = .returned (.int .i64 (heldv hs)) ∧ Kept w w' := by
  have HN := Lib.hid hn
  have HL := Lib.hid hL
  clear hn hL
  by_cases hg : Good hs
  · have hv : heldv hs = sumfr hs := by unfold heldv; rw [if_pos hg]
    have hsb := sumfr_bound hg.2
    have h64 := hg.1
    rw [HN.out] at h64
    have HV := Lib.hid hv
    have HG := Lib.hid hg
    have HSB := Lib.hid hsb
    clear hv hg hsb
    go_enter Try.func17, Try.ntmps17
    go_wp2_with fail
    go_loopw [3, 4] (fun u v wr => ∃ k : Nat, v = .int .i64 k ∧ k ≤ n ∧ u = .int .i64 (sumfr (hs.take k)) ∧ Kept w wr) (fun _ v _ => n - (intOf v).toNat)
    case atStart => exact ⟨0, rfl, by omega, by simp [sumfr], Only.refl _ _⟩
    case round =>
      obtain ⟨k, rfl, hk, rfl, hkp⟩ := hrel
      have HK := Lib.hid hkp
      obtain ⟨s0, s1⟩ := HSB.out k (by rw [HN.out]; exact hk) (by rw [HN.out]; exact hk)
      clear hkp
      by_cases hlt : k < n
      · obtain ⟨x, hx⟩ : ∃ x, hs[k]? = some x := ⟨_, List.getElem?_eq_getElem (by rw [HN.out]; exact hlt)⟩
        obtain ⟨g, o, hA, hg, hc⟩ := HL.out (by rintro rfl; simp at hx)
        subst hA
        obtain ⟨c1, c2⟩ := hc k x hx
        have C2 := Lib.hid c2
        have hs2 : sumfr (hs.take (k + 1)) = sumfr (hs.take k) + x.fr := by
          obtain ⟨hk', hxe⟩ := List.getElem?_eq_some_iff.1 hx
          rw [List.take_succ_eq_append_getElem hk', hxe, sumfr_snoc]
        obtain ⟨s2, s3⟩ := HSB.out (k + 1) (by rw [HN.out]; exact hlt) (by rw [HN.out]; exact hlt)
        rw [hs2] at s2 s3
        have HS2 := Lib.hid hs2
        clear hx hc c1 c2 hs2
        go_wp2_with fail
        refine (rcheck_calls _ n c hs wr HN.out (by omega) (HL.out.kept HK.out)).mono ?_
        rw [chk_good HG.out]
        rintro e w2 ⟨rfl, hk2⟩
        have HK2 := Lib.hid (HK.out.trans hk2)
        have d2 := kept_cell HK2.out C2.out
        clear hk2
        go_wp2_with fail
        go_roundw
        case rel => exact ⟨k + 1, by go_num, by omega, by rw [HS2.out], HK2.out⟩
        case measure => simp [intOf]; omega
      · obtain rfl : n = k := by omega
        go_wp2_with fail
        go_ret
        exact ⟨by (rw [HV.out, List.take_of_length_le (by rw [HN.out]; exact Nat.le_refl _)]) <;> rfl, HK.out⟩
  · have hv : heldv hs = 0 := by unfold heldv; rw [if_neg hg]
    have HV := Lib.hid hv
    have HG := Lib.hid hg
    clear hv hg
    go_enter Try.func17, Try.ntmps17
    go_wp2_with fail
    go_loopw [3, 4] (fun u v wr => u = .int .i64 0 ∧ v = .int .i64 0 ∧ w = wr) (fun _ _ _ => 0)
    case atStart => exact ⟨rfl, rfl, rfl⟩
    case round =>
      obtain ⟨rfl, rfl, rfl⟩ := hrel
      by_cases h0 : 0 < n
      · go_wp2_with fail
        refine (rcheck_calls A n c hs w HN.out (by omega) HL.out).mono ?_
        rw [chk_bad HG.out]
        rintro e w2 ⟨rfl, hk2⟩
        have HK2 := Lib.hid hk2
        clear hk2
        go_wp2_with fail
        go_ret
        exact ⟨by (rw [HV.out]) <;> rfl, HK2.out⟩
      · go_wp2_with fail
        go_ret
        exact ⟨by (rw [HV.out]) <;> rfl, Only.refl _ _⟩

set_option maxHeartbeats 2000000 in
theorem same_calls (A B : Option Addr) (n c c' : Nat) (hs : List Hd) (w : World) (hn : hs.length = n) (hb : n ≤ 1000) (hA : Hs w A hs) (hB : Hs w B hs) :
    Calls Try.prog 19 #[.slice A n c, .slice B n c'] w fun e w' => e = .returned (.bool true) ∧ ∃ q, w' = w.drewN q := by
  have HN := Lib.hid hn
  have HA := Lib.hid hA
  have HB := Lib.hid hB
  clear hn hA hB
  go_enter Try.func19, Try.ntmps19
  go_wp2_with fail
  go_loopw [5] (fun v wr => ∃ k q : Nat, v = .int .i64 k ∧ k ≤ n ∧ wr = w.drewN q) (fun v _ => n - (intOf v).toNat)
  case atStart => exact ⟨0, 0, rfl, by omega, rfl⟩
  case round =>
    obtain ⟨k, q, rfl, hk, hw⟩ := hrel
    subst hw
    by_cases hlt : k < n
    · obtain ⟨x, hx⟩ : ∃ x, hs[k]? = some x := ⟨_, List.getElem?_eq_getElem (by rw [HN.out]; exact hlt)⟩
      have hne : hs ≠ [] := by rintro rfl; simp at hx
      obtain ⟨g1, o1, hA, _, h1⟩ := HA.out hne
      obtain ⟨g2, o2, hB, _, h2⟩ := HB.out hne
      subst hA hB
      obtain ⟨a0, a1⟩ := h1 k x hx
      obtain ⟨b0, b1⟩ := h2 k x hx
      have z0 : (0 : Int) ≤ (k : Int) := by omega
      have z1 : (k : Int) < (n : Int) := by omega
      clear HA HB HN h1 h2 hne hx
      go_wp2_with fail
      go_quiet (fail)
      go_wp2_with fail
      go_roundw
      case rel => exact ⟨k + 1, _, by go_num, by omega, rfl⟩
      case measure => simp [intOf]; omega
    · go_wp2_with fail
      go_ret
      exact ⟨rfl, _, rfl⟩

set_option maxHeartbeats 2000000 in
theorem over_calls (base : Nat) (A : Option Addr) (n c : Nat) (xs : List Value) (w : World) (hb : n ≤ 1000) (h : w.ownsRow base 3 1 (.slice A n c) n xs) :
    Calls Try.prog 18 #[.slice A n c] w fun e w' => (∃ v, e = .returned v) ∧ Only (fun k => base ≤ k) w w' := by
  have hex : 0 < n → ∃ g cur, A = some ⟨g, 0, none⟩ ∧ base ≤ g ∧ Blk w g 3 cur ∧ n ≤ cur.size := fun h0 => by
    rcases h.2 with ⟨_, h1⟩ | ⟨g, cap, cur, h1, h2, h3, h4, _, h6, _⟩
    · omega
    · injection h1 with e1 e2 e3
      exact ⟨g, cur, e1, h2, h3, by omega⟩
  have HE := Lib.hid hex
  clear h hex
  go_enter Try.func18, Try.ntmps18
  go_wp2_with fail
  go_loopw [2] (fun v wr => ∃ k : Nat, v = .int .i64 k ∧ k ≤ n ∧ (0 < n → ∃ g cur, A = some ⟨g, 0, none⟩ ∧ base ≤ g ∧ Blk wr g 3 cur ∧ n ≤ cur.size) ∧ Only (fun k => base ≤ k) w wr) (fun v _ => n - (intOf v).toNat)
  case atStart => exact ⟨0, rfl, by omega, HE.out, Only.refl _ _⟩
  case round =>
    obtain ⟨k, rfl, hk, hg, ho⟩ := hrel
    have HO := Lib.hid ho
    by_cases hlt : k < n
    · obtain ⟨g, cur, rfl, hbg, hB, hs⟩ := hg (by omega)
      obtain ⟨v0, f0⟩ : ∃ v, wr.cell? ⟨g, k, none⟩ = some v := ⟨_, (hB.cell _).trans (Array.getElem?_eq_getElem (by omega))⟩
      have z0 := hB.frozen k
      have HB := Lib.hid hB
      clear hB ho hg HE
      go_wp2_with fail
      go_roundw
      case rel => exact ⟨k + 1, by go_num, by omega, fun _ => ⟨g, _, rfl, hbg, HB.out.set_ _ _, by simpa using hs⟩, HO.out.setOf hbg _⟩
      case measure => simp [intOf]; omega
    · clear hg ho HE
      go_wp2_with fail
      go_end0
      exact ⟨⟨_, rfl⟩, HO.out⟩
end Go.Proofs.Ytflljldmcidhgaa

/- of, and the chapter's examples. -/
import Derived.Test.YtoohkcboidamnaaObS
import Derived.Test.YtoohkcboidamnaaObQ
namespace Go.Proofs.Ytoohkcboidamnaa
open Go.RowKit
set_option linter.unusedVariables false
set_option linter.unusedSimpArgs false
set_option linter.unnecessarySimpa false

theorem own_keep {w w' : World} {base : Nat} {e size : Nat} {v : Value} {n : Nat} {xs : List Value} (h : w.ownsRow base e size v n xs) (ho : Only (fun _ => False) w w') : w'.ownsRow base e size v n xs :=
  h.kept (row := none) ⟨ho.os, ho.tape, ho.output, ho.size, fun k hk _ => ho.block k hk (fun f => f)⟩ (by rcases h.2 with ⟨rfl, _⟩ | ⟨g, cap, cur, rfl, _⟩ <;> simp [Value.ownBlock])

/-- An item of a frame alone. -/
abbrev It.ofFrame (f : Int) : It := ⟨f, 0, 0, 0⟩

set_option maxHeartbeats 2000000 in
theorem of_calls (g : Nat) (fs : List Int) (n c : Nat) (w : World) (hn : fs.length = n) (hb : n ≤ 1073741824) (hg : Blk w g 3 (fs.map (Value.int .i64)).toArray) :
    Calls Try.prog 27 #[.slice (some ⟨g, 0, none⟩) n c] w fun e w' => ∃ A cp, e = .returned (.slice A n cp) ∧ w'.ownsRow w.heap.size 30 4 (.slice A n cp) n ((fs.map It.ofFrame).flatMap It.cells) ∧ Kept w w' := by
  obtain ⟨i0, hi, hz0, hz1, hz2⟩ := info_parts Try.info30
  have HN := Lib.hid hn
  have HG := Lib.hid hg
  have hlt := hg.lt
  clear hn hg
  go_enter Try.func27, Try.ntmps27
  go_wp2_with fail
  go_loopw [3, 4] (fun v i wr => ∃ k : Nat, i = .int .i64 k ∧ k ≤ n ∧ wr.ownsRow w.heap.size 30 4 v k (((fs.take k).map It.ofFrame).flatMap It.cells) ∧ Kept w wr) (fun _ i _ => n - (intOf i).toNat)
  case atStart => exact ⟨0, rfl, by omega, by simpa using World.ownsRow_nil _ _ _ _, Only.refl _ _⟩
  case round =>
    obtain ⟨k, rfl, hk, hown, hkp⟩ := hrel
    have HO := Lib.hid hown
    have HK := Lib.hid hkp
    by_cases hkn : k < n
    · obtain ⟨f, hf⟩ : ∃ f, fs[k]? = some f := ⟨_, List.getElem?_eq_getElem (by rw [HN.out]; exact hkn)⟩
      have hc : wr.cell? ⟨g, k, none⟩ = some (.int .i64 f) := by
        rw [(hkp.blk HG.out (fun h => h)).cell]; simp [hf]
      have hsz := hkp.size
      have HF := Lib.hid hf
      clear hf hkp hown
      go_wp2_with (at_builtin; refine wpList_append_own _ rfl _ _ 42 rfl w.heap.size 30 i0 (.agg #[.int .i64 0, .int .i64 0, .int .i64 0, .int .i64 0]) 4 32 Try.underlying42 hi hz0 hz1 hz2 rfl (by decide) _ _ _ rfl (HO.out.alloc _) ⟨wr.heap.size, 0, none⟩ 1 1 (It.ofFrame f).cells rfl rfl (cells_four_new _ (It.ofFrame f) _) (four_oneCell (It.ofFrame f)) (by unfold maxLen; omega) (by omega) (by simp; omega) ?_; intro v' w1 hown' hgrow _)
      go_roundw
      case rel =>
        have ht : fs.take (k + 1) = fs.take k ++ [f] := by rw [List.take_add_one, HF.out]; rfl
        refine ⟨k + 1, by go_num, by omega, ?_, (HK.out.alloc _).grown hgrow (fun q hq hl => by have := (HO.out.lt q hq).1; omega)⟩
        rw [ht]
        simpa using hown'
      case measure => simp [intOf]; omega
    · obtain rfl : n = k := by omega
      obtain ⟨A, cp, rfl⟩ := ownsRow_form hown
      clear hown hkp
      go_wp2
      go_ret
      refine ⟨A, cp, rfl, ?_, HK.out⟩
      have := HO.out
      rwa [List.take_of_length_le (by rw [HN.out]; omega)] at this

/-- The two items that the examples ask for, behind the call of 'of'. -/
theorem of_two (w : World) :
    Calls Try.prog 27 #[.slice (some ⟨w.heap.size, 0, none⟩) 2 2] (w.alloc (.cells #[.int .i64 8, .int .i64 9] 3)) fun e w' => ∃ A cp, e = .returned (.slice A 2 cp) ∧ w'.ownsRow w.heap.size 30 4 (.slice A 2 cp) 2 (([⟨8, 0, 0, 0⟩, ⟨9, 0, 0, 0⟩] : List It).flatMap It.cells) ∧ Kept w w' := by
  refine (of_calls w.heap.size [8, 9] 2 2 _ rfl (by omega) (Blk.new w 3 _)).mono ?_
  rintro e w' ⟨A, cp, he, ho, hk⟩
  exact ⟨A, cp, he, ownsRow_base ho (by simp), ((Only.refl _ w).alloc _).trans hk⟩

set_option maxHeartbeats 4000000 in
theorem known_calls (w : World) : Calls Try.prog 6 #[] w fun e w' => e = .returned (.bool true) ∧ Kept w w' := by
  go_enter Try.func6, Try.ntmps6
  go_wp2_with fail
  refine (two_calls _).mono ?_
  rintro e w1 ⟨b, r, ring, rfl, ho1, hb, hr, hk1⟩
  have hno : ∀ i, i < w.heap.size → (i = b ∨ i = r) → False := by intro i hi h; omega
  have hno' : ∀ i, i < w.heap.size → i = b → False := by intro i hi h; omega
  have HN := Lib.hid hno
  have HN' := Lib.hid hno'
  clear hno hno'
  go_wp2_with fail
  refine (pops_ok b r 2 _ 0 7 _ _ _ ho1 (by omega)).mono ?_
  rintro e w2 ⟨rfl, ho2, hk2⟩
  have k2 := hk1.trans' hk2 HN'.out
  go_wp2_with fail
  refine (push_ok b r 2 _ _ _ _ 9 0 0 0 _ ho2 (by omega) (by simp)).mono ?_
  rintro e w3 ⟨rfl, ho3, hk3⟩
  have k3 := k2.trans' hk3 HN.out
  go_wp2_with fail
  refine (all_calls b r 2 _ _ _ _ (by omega) _ ho3).mono ?_
  rintro e w4 ⟨A4, c4, rfl, hr4, hk4, _⟩
  have ho4 := ho3.keep hk4 (fun h => h) (fun h => h)
  have k4 := k3.trans hk4
  have R4 := Lib.hid hr4
  clear hr4
  go_wp2_with fail
  refine (of_two _).mono ?_
  rintro e w5 ⟨A5, c5, rfl, hr5, hk5⟩
  have ho5 := ho4.keep hk5 (fun h => h) (fun h => h)
  have k5 := k4.trans hk5
  have S4 := Lib.hid (Sl.of_own (own_keep R4.out hk5))
  have S5 := Lib.hid (Sl.of_own hr5)
  clear hr5
  go_wp2_with fail
  refine (same_items A4 A5 2 c4 c5 [⟨8, 0, 0, 0⟩, ⟨9, 0, 0, 0⟩] _ rfl (by omega) S4.out S5.out).mono ?_
  rintro e w6 ⟨rfl, q6, rfl⟩
  have ho6 := ho5.drewN q6
  have k6 := k5.drewN q6
  generalize w5.drewN q6 = w6 at *
  clear hk1 hk2 hk3 hk4 hk5 k2 k3 k4 k5 ho1 ho2 ho3 ho4 ho5
  go_wp2_with fail
  refine (clear_calls b r 2 _ _ _ _ (by omega) _ ho6).mono ?_
  rintro e w7 ⟨A7, c7, rfl, hr7, ho7, hk7, _⟩
  have k7 := k6.trans' hk7 HN'.out
  have R7 := Lib.hid hr7
  clear hr7
  go_wp2_with fail
  refine (of_two _).mono ?_
  rintro e w8 ⟨A8, c8, rfl, hr8, hk8⟩
  have ho8 := ho7.keep hk8 (fun h => h) (fun h => h)
  have k8 := k7.trans hk8
  have S7 := Lib.hid (Sl.of_own (own_keep R7.out hk8))
  have S8 := Lib.hid (Sl.of_own hr8)
  clear hr8
  go_wp2_with fail
  refine (same_items A7 A8 2 c7 c8 [⟨8, 0, 0, 0⟩, ⟨9, 0, 0, 0⟩] _ rfl (by omega) S7.out S8.out).mono ?_
  rintro e w9 ⟨rfl, q9, rfl⟩
  have ho9 := ho8.drewN q9
  have k9 := k8.drewN q9
  generalize w8.drewN q9 = w9 at *
  clear hk7 hk8 k6 k7 k8 ho6 ho7 ho8
  go_wp2_with fail
  refine (pops_none b r 2 _ _ _ _ ho9 (by omega)).mono ?_
  rintro e w10 ⟨rfl, hk10⟩
  have ho10 := ho9.keep hk10 (fun h => h) (fun h => h)
  have k10 := k9.trans hk10
  go_wp2_with fail
  refine (ever_ob b r 2 _ _ _ _ _ ho10).mono ?_
  rintro e w11 ⟨rfl, rfl⟩
  go_wp2_with fail
  refine (new_no 0 _ (by omega)).mono ?_
  rintro e w11 ⟨rfl, rfl⟩
  go_wp2_with fail
  refine (new_no 1001 _ (by omega)).mono ?_
  rintro e w11 ⟨rfl, rfl⟩
  go_wp2_with fail
  refine (awake_calls _).mono ?_
  rintro e w12 ⟨rfl, hk12⟩
  have k12 := k10.trans hk12
  go_wp2_with fail
  go_ret
  exact ⟨rfl, k12⟩

end Go.Proofs.Ytoohkcboidamnaa

/- The document's pool: New; OverBytes; Look's row lies behind all. -/
import Derived.Test.YtjfbanemjceimaaRefD
namespace Go.Proofs.Ytjfbanemjceimaa
open Go.RowKit Go.Maps
set_option linter.unusedVariables false
set_option linter.unusedSimpArgs false
set_option linter.unnecessarySimpa false

theorem rnew_no (n q : Int) (w : World) (h : n < 1 ∨ 64 < n ∨ q < 1 ∨ n < q) :
    Calls Try.prog 25 #[.int .i64 n, .int .i64 q] w fun e w' => e = .returned (.tuple #[.pointer none, .int .i64 3]) ∧ w = w' := by
  by_cases h1 : n < 1
  · clear h
    go_enter Try.func25, Try.ntmps25
    go_wp2_with fail
    go_returns
    exact ⟨rfl, rfl⟩
  · by_cases h2 : 64 < n
    · clear h
      go_enter Try.func25, Try.ntmps25
      go_wp2_with fail
      go_returns
      exact ⟨rfl, rfl⟩
    · by_cases h3 : q < 1
      · clear h
        go_enter Try.func25, Try.ntmps25
        go_wp2_with fail
        go_returns
        exact ⟨rfl, rfl⟩
      · have h4 : n < q := by omega
        clear h
        go_enter Try.func25, Try.ntmps25
        go_wp2_with fail
        go_returns
        exact ⟨rfl, rfl⟩

theorem rows_new (N : Nat) : Rows (madeCells #[.int .i64 0, .int .i64 0, .slice none 0 0] (N * 3)) N (List.replicate N ⟨0, 0, none⟩) := by
  refine ⟨size_madeCells _ _, fun i x hx => ?_⟩
  rw [List.getElem?_replicate] at hx
  split at hx
  · rename_i hi
    cases hx
    have key : ∀ j, j < 3 → (madeCells #[.int .i64 0, .int .i64 0, .slice none 0 0] (N * 3))[i * 3 + j]? = (#[(.int .i64 0 : Value), .int .i64 0, .slice none 0 0])[j]? := by
      intro j hj
      unfold madeCells
      rw [Array.getElem?_map, Array.getElem?_range, if_pos (by omega)]
      have e : (i * 3 + j) % (#[(.int .i64 0 : Value), .int .i64 0, .slice none 0 0]).size = j := by
        show (i * 3 + j) % 3 = j
        omega
      simp only [Option.map_some, e]
      rcases (show j = 0 ∨ j = 1 ∨ j = 2 by omega) with rfl | rfl | rfl <;> rfl
    exact ⟨key 0 (by omega), key 1 (by omega), key 2 (by omega)⟩
  · cases hx

theorem rnew_ok (N Q : Nat) (w : World) (hN : 1 ≤ N) (hN2 : N ≤ 64) (hQ : 1 ≤ Q) (hQN : Q ≤ N) :
    Calls Try.prog 25 #[.int .i64 N, .int .i64 Q] w fun e w' => ∃ q lb, e = .returned (.tuple #[.pointer (some ⟨q, 0, none⟩), .int .i64 0]) ∧ Kept w w' ∧
      RP w' q lb N Q 0 w.heap.size w'.heap.size (List.replicate N ⟨0, 0, none⟩) := by
  obtain ⟨i0, hi, hz0, hz1, hz2⟩ := info_parts (show (Try.prog.info? 77).map (fun i => (i.zero, i.size, i.bytes)) = some (some (.agg #[.int .i64 0, .int .i64 0, .slice none 0 0]), 3, 40) by kernel_rfl)
  have hms := fun W => run_make_rowN (P := Try.prog) 72 77 i0 _ Try.underlying72 hi hz0 .i64 .i64 N N (Nat.le_refl _) (by rw [hz2]; omega) (by omega) W
  rw [hz1] at hms
  have ez : (Value.agg #[.int .i64 0, .int .i64 0, .slice none 0 0]).cells = #[.int .i64 0, .int .i64 0, .slice none 0 0] := by simp [Value.cells]
  rw [ez] at hms
  clear hi hz0 hz1 hz2
  have hNQ : decide (N < Q) = false := decide_eq_false (by omega)
  go_enter Try.func25, Try.ntmps25
  go_wp2_with fail
  go_returns
  have hr : ∀ (i : Nat) (x : Fr), (List.replicate N (⟨0, 0, none⟩ : Fr))[i]? = some x → x = ⟨0, 0, none⟩ := by
    intro i x hx
    rw [List.getElem?_replicate] at hx
    split at hx
    · cases hx; rfl
    · cases hx
  refine ⟨w.heap.size + 1, w.heap.size, by simp, ((Only.refl (fun _ => False) w).alloc _).alloc _, ?_⟩
  have hb := Blk.new (w.alloc (.cells (madeCells #[.int .i64 0, .int .i64 0, .slice none 0 0] (N * 3)) 77)) 74 #[.slice (some ⟨w.heap.size, 0, none⟩) N N, .int .i64 (Q : Int)]
  rw [show (w.alloc (.cells (madeCells #[.int .i64 0, .int .i64 0, .slice none 0 0] (N * 3)) 77)).heap.size = w.heap.size + 1 by simp] at hb
  exact
    { box := hb
      tab := ⟨_, (Blk.new w 77 _).alloc _, rows_new N⟩
      len := by simp
      mem := fun i x m cs hx he => by obtain rfl := hr i x hx; cases he
      minj := fun i j x y m c1 c2 hx hy h1 h2 => by obtain rfl := hr i x hx; cases h1
      inq := by simp
      inlb := by simp; omega
      hiw := Nat.le_refl _
      N64 := hN2
      T1 := by omega
      ok := fun i x hx => by obtain rfl := hr i x hx; exact ⟨by decide, by show (0 : Int) ≤ _; omega⟩ }

/-- The bytes that a row of our own holds are turned, and nothing else. -/
theorem overb_ok (B : Option Addr) (n c base : Nat) (xs : List Int) (w : World) (hn : n ≤ 152064) (h : w.ownsRow base 5 1 (.slice B n c) n (xs.map (Value.int .u8))) :
    Calls Try.prog 41 #[.slice B n c] w fun e w' => (∃ v, e = .returned v) ∧ Only (fun k => base ≤ k ∧ B = some ⟨k, 0, none⟩) w w' := by
  have hxl : xs.length = n := by have := h.1; simpa using this
  rcases h.2 with ⟨h1, h2⟩ | ⟨g, cp, cur, h1, h2, h3, h4, h5, h6, h7⟩
  · subst h2
    clear h
    go_enter Try.func41, Try.ntmps41
    go_wp2_with fail
    go_loopw [2] (fun v wr => v = .int .i64 0 ∧ w = wr) (fun v _ => 0)
    case atStart => exact ⟨rfl, rfl⟩
    case round =>
      obtain ⟨rfl, rfl⟩ := hrel
      go_wp2_with fail
      go_end0
      exact ⟨⟨_, rfl⟩, Only.refl _ _⟩
  · simp only [Value.slice.injEq] at h1
    obtain ⟨rfl, _, rfl⟩ := h1
    have hb : Blk w g 5 cur := h3
    have hv : ∀ i, i < n → ∃ v : Int, cur[i]? = some (.int .u8 v) := fun i hi => by
      have e : (List.take (n * 1) cur.toList)[i]? = (xs.map (Value.int .u8))[i]? := by rw [h7]
      rw [List.getElem?_take_of_lt (by omega), Array.getElem?_toList, List.getElem?_map, List.getElem?_eq_getElem (by omega)] at e
      exact ⟨_, e⟩
    have HB := Lib.hid hb
    have HV := Lib.hid hv
    clear h h3 h7 hb hv
    go_enter Try.func41, Try.ntmps41
    go_wp2_with fail
    go_loopw [2] (fun v wr => ∃ (k : Nat) (cur : Array Value), v = .int .i64 k ∧ k ≤ n ∧ Blk wr g 5 cur ∧ (∀ i, i < n → ∃ v : Int, cur[i]? = some (.int .u8 v)) ∧ Only (fun k => base ≤ k ∧ some (⟨g, 0, none⟩ : Addr) = some ⟨k, 0, none⟩) w wr) (fun v _ => n - (intOf v).toNat)
    case atStart => exact ⟨0, cur, rfl, by omega, HB.out, HV.out, Only.refl _ _⟩
    case round =>
      clear HB HV
      obtain ⟨k, cur, rfl, hk, hb, hv, ho⟩ := hrel
      have HO := Lib.hid ho
      have HB := Lib.hid hb
      have HV := Lib.hid hv
      by_cases hkn : k < n
      · obtain ⟨v, hv0⟩ := hv k hkn
        have c0 := (hb.cell k).trans hv0
        have y0 := hb.frozen k
        have hlt := hb.lt
        have hsz := (Array.getElem?_eq_some_iff.1 hv0).1
        have z1 : (0 : Int) ≤ (k : Int) := by omega
        have z2 : (k : Int) < (n : Int) := by omega
        clear hb hv ho hv0
        go_wp2_with fail
        go_roundw
        case rel =>
          refine ⟨k + 1, _, by go_num, by omega, HB.out.set_ k _, fun i hi => ?_, HO.out.trans ((Only.refl (fun k => base ≤ k ∧ some (⟨g, 0, none⟩ : Addr) = some ⟨k, 0, none⟩) _).setOf (o := k) ⟨h2, rfl⟩ _)⟩
          by_cases e : k = i
          · subst e
            exact ⟨_, Array.getElem?_setIfInBounds_self_of_lt hsz⟩
          · rw [Array.getElem?_setIfInBounds_ne e]
            exact HV.out i hi
        case measure => simp [intOf]; omega
      · clear hb hv ho
        go_wp2_with fail
        go_end0
        exact ⟨⟨_, rfl⟩, HO.out⟩

theorem own_lt {w : World} {base n c g size : Nat} {e : TypeId} {xs : List Value} {B : Option Addr} (h : w.ownsRow base e size (.slice B n c) n xs) (hB : B = some ⟨g, 0, none⟩) : g < w.heap.size := by
  rcases h.2 with ⟨h1, h2⟩ | ⟨g', cp, cur, h1, h2, h3, _⟩
  · simp only [Value.slice.injEq] at h1
    rw [hB] at h1
    cases h1.1
  · simp only [Value.slice.injEq] at h1
    rw [hB] at h1
    obtain ⟨h1, _, _⟩ := h1
    cases h1
    exact (Array.getElem?_eq_some_iff.1 h3).1

section
variable {p N Q T lo hi : Nat} {fs : List Fr}

set_option maxHeartbeats 1000000 in
theorem pool_look_ok2 (n k : Nat) (x : Fr) (w : World) (h : Pool w p N Q T lo hi fs) (hx : fs[n]? = some x) (hbt : Bts (cont x)) (hk : k ≤ 152064) :
    Calls Try.prog 11 #[.pointer (some ⟨p, 0, none⟩), .int .i64 n, .int .i64 k] w fun e w' => ∃ m B c base, e = .returned (.tuple #[.slice B k c, .int .i64 0]) ∧ Only (fun k => lo ≤ k ∧ k < hi) w w' ∧ Lies w fs n m ∧ m < base ∧ w.heap.size ≤ base ∧
      Pool w' p N Q T lo hi (maded fs n m) ∧ w'.ownsRow base 5 1 (.slice B k c) k ((pre (cont x) k).map (Value.int .u8)) := by
  obtain ⟨fb, ib, cap, mb, fbs, l, f, h⟩ := h
  have k0 := h.idle.box.cell 0
  simp at k0
  have hn : n < N := by have := (List.getElem?_eq_some_iff.1 hx).1; have := h.books.len; omega
  obtain ⟨b, y, hb, hy, _, hc⟩ := h.at_ hn
  have HH := Lib.hid h
  have HX := Lib.hid hx
  have HB := Lib.hid hb
  have HBT := Lib.hid hbt
  clear h hx hb hy hbt
  go_enter Try.func11, Try.ntmps11
  go_wp2_with fail
  refine (pnone_ok p _ _ _ Q _ HH.out.idle.box HH.out.Q1).mono ?_
  rintro e w' ⟨rfl, rfl⟩
  go_wp2_with fail
  refine (fmem_ok n b x w HH.out HB.out HX.out).mono ?_
  rintro e w1 ⟨m, rfl, ho, hl, hlt, hpl⟩
  have hxm := maded_get (m := m) HX.out
  obtain ⟨a1, a2, a3⟩ := hpl.mem n _ m _ hxm rfl
  have HT := Lib.hid (Txt.of_blk (n := k) a1 HBT.out hk)
  have HO := Lib.hid ho
  have HL := Lib.hid hl
  have HP := Lib.hid hpl
  have HLT := Lib.hid hlt
  clear ho hl hpl hxm a1 a2 a3 hlt
  go_wp2_with fail
  refine (clone_ok ⟨m, 0, none⟩ k 152064 _ w1 (pre_length _ _).symm hk HT.out).mono ?_
  rintro e w2 ⟨B, c, rfl, hk2, hown⟩
  have HK2 := Lib.hid hk2
  have HOW := Lib.hid hown
  clear hk2 hown
  go_wp2_with fail
  go_returns
  exact ⟨m, B, c, w1.heap.size, rfl, HO.out.trans (HK2.out.mono (fun _ _ f => f.elim)), HL.out, HLT.out, HO.out.size, ⟨fb, ib, cap, mb, fbs, l, f, HP.out.kept HK2.out⟩, HOW.out⟩
end
end Go.Proofs.Ytjfbanemjceimaa

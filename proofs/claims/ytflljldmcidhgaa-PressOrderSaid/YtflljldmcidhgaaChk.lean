/- Check: Contains, Index; which lists are holders. -/
import Derived.Deep.AppendLies
import Derived.Test.YtflljldmcidhgaaItB
import Derived.Test.YtflljldmcidhgaaInts
namespace Go.Proofs.Ytflljldmcidhgaa
open Go.RowKit
set_option linter.unusedVariables false
set_option linter.unusedSimpArgs false
set_option linter.unnecessarySimpa false

def memB (xs : List Int) (x : Int) : Bool := decide (x ∈ xs)

theorem index_ok (A : Option Addr) (n c : Nat) (xs : List Int) (x : Int) (w : World) (h : Ints w A xs) (hn : n = xs.length) (hb : n ≤ 1073741824) :
    Calls Try.prog 32 #[.slice A n c, .int .i64 x] w fun e w' => ∃ r : Int, e = .returned (.int .i64 r) ∧ decide (0 ≤ r) = memB xs x ∧ w = w' := by
  have H := Lib.hid h
  have HN := Lib.hid hn
  clear h hn
  go_enter Try.func32, Try.ntmps32
  go_wp2_with fail
  go_loop [8] (fun v => ∃ k : Nat, v = .int .i64 k ∧ k ≤ n ∧ x ∉ xs.take k) (fun v => n - (intOf v).toNat)
  case atStart => exact ⟨0, rfl, by omega, by simp⟩
  case round =>
    obtain ⟨k, rfl, hk, hno⟩ := hrel
    have HNO := Lib.hid hno
    clear hno
    by_cases hlt : k < n
    · have hkx : k < xs.length := by rw [← HN.out]; exact hlt
      obtain ⟨g, o, hA, hg, hc⟩ := H.out (by rintro rfl; simp at hkx)
      subst hA
      have c1 := hc k hkx
      obtain ⟨y, hy⟩ : ∃ y, xs.getD k 0 = y := ⟨_, rfl⟩
      rw [hy] at c1
      have hy' : xs[k] = y := by rw [← hy]; simp [List.getD, hkx]
      have hts := List.take_succ_eq_append_getElem hkx
      rw [hy'] at hts
      have HT := Lib.hid hts
      have HY := Lib.hid (show y ∈ xs by rw [← hy']; exact List.getElem_mem _)
      clear hc hy hy' hts hkx
      by_cases he : x = y
      · subst he
        go_wp2_with fail
        go_ret
        exact ⟨k, rfl, by simp [memB, HY.out], rfl⟩
      · have hb' : (x == y) = false := by rw [beq_eq_false_iff_ne]; exact he
        have HE := Lib.hid he
        clear he
        go_wp2_with fail
        go_round
        case rel =>
          refine ⟨k + 1, by go_num, by omega, ?_⟩
          rw [HT.out, List.mem_append]
          rintro (h | h)
          · exact HNO.out h
          · simp at h; exact HE.out h
        case measure => simp [intOf]; omega
    · go_wp2_with fail
      go_ret
      refine ⟨-1, rfl, ?_, rfl⟩
      have h := HNO.out
      rw [List.take_of_length_le (by rw [← HN.out]; omega)] at h
      simp [memB, h]

theorem contains_ok (A : Option Addr) (n c : Nat) (xs : List Int) (x : Int) (w : World) (h : Ints w A xs) (hn : n = xs.length) (hb : n ≤ 1073741824) :
    Calls Try.prog 28 #[.slice A n c, .int .i64 x] w fun e w' => e = .returned (.bool (memB xs x)) ∧ w = w' := by
  have hc := index_ok A n c xs x w h hn hb
  clear h hn
  go_enter Try.func28, Try.ntmps28
  go_wp2_with fail
  refine hc.mono ?_
  rintro e w' ⟨r, rfl, hr, rfl⟩
  have HR := Lib.hid hr
  clear hr hc
  go_wp2_with fail
  go_ret
  exact ⟨by (rw [← HR.out]) <;> rfl, rfl⟩

/-- The first k are holders. -/
def Pfx (hs : List Hd) (k : Nat) : Prop := ∀ (i : Nat) (x : Hd), i < k → hs[i]? = some x → (1 ≤ x.id ∧ 0 ≤ x.fr ∧ x.fr ≤ 64) ∧ x.id ∉ (hs.take i).map Hd.id

/-- Which lists are holders. -/
def Good (hs : List Hd) : Prop := hs.length ≤ 64 ∧ Pfx hs hs.length

open Classical in
noncomputable def chk (hs : List Hd) : Int := if Good hs then 0 else 2

theorem chk_good {hs : List Hd} (h : Good hs) : chk hs = 0 := by unfold chk; rw [if_pos h]
theorem chk_bad {hs : List Hd} (h : ¬ Good hs) : chk hs = 2 := by unfold chk; rw [if_neg h]

theorem pfx_bad {hs : List Hd} {k : Nat} {x : Hd} (hx : hs[k]? = some x) (h : ¬ ((1 ≤ x.id ∧ 0 ≤ x.fr ∧ x.fr ≤ 64) ∧ x.id ∉ (hs.take k).map Hd.id)) : chk hs = 2 :=
  chk_bad fun hg => h (hg.2 k x (List.getElem?_eq_some_iff.1 hx).1 hx)

theorem pfx_step {hs : List Hd} {k : Nat} {x : Hd} (hp : Pfx hs k) (hx : hs[k]? = some x) (h1 : 1 ≤ x.id ∧ 0 ≤ x.fr ∧ x.fr ≤ 64) (h2 : x.id ∉ (hs.take k).map Hd.id) : Pfx hs (k + 1) := by
  intro i y hi hy
  by_cases e : i < k
  · exact hp i y e hy
  · obtain rfl : i = k := by omega
    rw [hx] at hy; cases hy
    exact ⟨h1, h2⟩

theorem ints_of_own {w : World} {base n c : Nat} {A : Option Addr} {xs : List Int} (h : w.ownsRow base 3 1 (.slice A n c) n (xs.map (Value.int .i64))) : Ints w A xs := by
  intro hne
  rcases h.2 with ⟨_, h2⟩ | ⟨g, cap, cur, h1, _, hg, _⟩
  · have := h.1
    rw [h2] at this
    cases xs with
    | nil => exact absurd rfl hne
    | cons x l => simp at this
  · simp only [Value.slice.injEq] at h1
    obtain ⟨rfl, _, _⟩ := h1
    refine ⟨g, 0, rfl, Blk.lt (w := w) hg, fun i hi => ?_⟩
    have hc := h.cells (g := g) rfl i (.int .i64 (xs.getD i 0)) (by simp [List.getD, List.getElem?_eq_getElem hi])
    rw [Addr.add_lit] at hc
    exact hc

theorem own_keep {w w' : World} {base e size n : Nat} {v : Value} {xs : List Value} (h : w.ownsRow base e size v n xs) (hk : Kept w w') : w'.ownsRow base e size v n xs := by
  refine ⟨h.1, h.2.imp id ?_⟩
  rintro ⟨g, cp, cur, e1, e2, e3, e4⟩
  exact ⟨g, cp, cur, e1, e2, Only.blk hk (g := g) e3 (fun f => f), e4⟩

theorem row_form {w : World} {base e size n : Nat} {v : Value} {xs : List Value} (h : w.ownsRow base e size v n xs) : ∃ A c, v = .slice A n c := by
  rcases h.2 with ⟨rfl, rfl⟩ | ⟨g, cap, cur, rfl, _⟩
  · exact ⟨_, _, rfl⟩
  · exact ⟨_, _, rfl⟩

/-- A row of one's own grows: what was there ahead of base stays. -/
theorem kept_grown {w0 w w' : World} {base e size n : Nat} {v : Value} {xs : List Value} (hk : Kept w0 w) (h : w.ownsRow base e size v n xs) (hb : w0.heap.size ≤ base) (hg : w.grownBy w' v.ownBlock) : Kept w0 w' :=
  hk.grown hg (fun k hk' hlt => by
    have := (h.lt k hk').1
    omega)

set_option maxRecDepth 100000 in
set_option maxHeartbeats 4000000 in
theorem check_calls (A : Option Addr) (n c : Nat) (hs : List Hd) (w : World) (hn : hs.length = n) (hb : n ≤ 9223372036854775807) (hL : Hs w A hs) :
    Calls Try.prog 14 #[.slice A n c] w fun e w' => e = .returned (.int .i64 (chk hs)) ∧ Kept w w' := by
  obtain ⟨i3, hi3, h30, h31, h32⟩ := info_parts (show (Try.prog.info? 3).map (fun i => (i.zero, i.size, i.bytes)) = some (some (.int .i64 0), 1, 8) by kernel_rfl)
  have HN := Lib.hid hn
  have HL := Lib.hid hL
  clear hn hL
  by_cases h64 : 64 < n
  · go_enter Try.func14, Try.ntmps14
    go_wp2_with fail
    go_ret
    have e : chk hs = 2 := chk_bad (fun hg => by have := hg.1; rw [HN.out] at this; omega)
    exact ⟨by (rw [e]) <;> rfl, Only.refl _ _⟩
  go_enter Try.func14, Try.ntmps14
  go_wp2_with fail
  go_loopw [3, 11] (fun u v wr => ∃ k : Nat, v = .int .i64 k ∧ k ≤ n ∧ wr.ownsRow w.heap.size 3 1 u k (((hs.take k).map Hd.id).map (Value.int .i64)) ∧ Pfx hs k ∧ Kept w wr) (fun _ v _ => n - (intOf v).toNat)
  case atStart => exact ⟨0, rfl, by omega, World.ownsRow_nil _ _ _ _, fun i x h => absurd h (Nat.not_lt_zero i), Only.refl _ _⟩
  case round =>
    obtain ⟨k, rfl, hk, ho, hp, hkp⟩ := hrel
    obtain ⟨AI, cI, rfl⟩ := row_form ho
    have HP := Lib.hid hp
    have HK := Lib.hid hkp
    have HO := Lib.hid ho
    by_cases hlt : k < n
    · obtain ⟨x, hx⟩ : ∃ x, hs[k]? = some x := ⟨_, List.getElem?_eq_getElem (by rw [HN.out]; exact hlt)⟩
      obtain ⟨g, o, hA, hg, hc⟩ := HL.out (by rintro rfl; simp at hx)
      subst hA
      obtain ⟨c1, c2⟩ := hc k x hx
      have d1 := kept_cell hkp c1
      have d2 := kept_cell hkp c2
      have HX := Lib.hid hx
      have hlen : ((hs.take k).map Hd.id).length = k := by rw [List.length_map, List.length_take, HN.out]; omega
      have HLN := Lib.hid hlen
      have HK1 := Lib.hid (hkp.alloc (.cells #[.int .i64 x.id, .int .i64 x.fr] 41))
      have HO1 := Lib.hid (ho.alloc (.cells #[.int .i64 x.id, .int .i64 x.fr] 41))
      have HI := Lib.hid (ints_of_own (ho.alloc (.cells #[.int .i64 x.id, .int .i64 x.fr] 41)))
      clear ho hp hkp hx hc c1 c2 hlen
      by_cases b1 : x.id < 1
      · go_wp2_with fail
        go_ret
        have e := pfx_bad HX.out (fun h => by have := h.1.1; omega)
        exact ⟨by (rw [e]) <;> rfl, HK1.out⟩
      by_cases b2 : x.fr < 0
      · go_wp2_with fail
        go_ret
        have e := pfx_bad HX.out (fun h => by have := h.1.2.1; omega)
        exact ⟨by (rw [e]) <;> rfl, HK1.out⟩
      by_cases b3 : 64 < x.fr
      · go_wp2_with fail
        go_ret
        have e := pfx_bad HX.out (fun h => by have := h.1.2.2; omega)
        exact ⟨by (rw [e]) <;> rfl, HK1.out⟩
      go_wp2_with fail
      refine (contains_ok AI k cI _ x.id _ HI.out HLN.out.symm (by omega)).mono ?_
      rintro e w' ⟨rfl, rfl⟩
      cases hm : memB ((hs.take k).map Hd.id) x.id with
      | true =>
        have e := pfx_bad HX.out (fun h => h.2 (by simpa [memB] using hm))
        have E := Lib.hid e
        clear hm e
        go_wp2_with fail
        go_ret
        exact ⟨by (rw [E.out]) <;> rfl, HK1.out⟩
      | false =>
        have hstep := pfx_step HP.out HX.out ⟨by omega, by omega, by omega⟩ (by simpa [memB] using hm)
        have hts : (hs.take (k + 1)).map Hd.id = (hs.take k).map Hd.id ++ [x.id] := by
          obtain ⟨hk', hxe⟩ := List.getElem?_eq_some_iff.1 HX.out
          rw [List.take_succ_eq_append_getElem hk', hxe, List.map_append]
          rfl
        have HST := Lib.hid hstep
        have HTS := Lib.hid hts
        clear hm hstep hts
        go_wp2_with (at_builtin; refine wpList_append_own _ rfl _ _ 27 rfl w.heap.size 3 i3 (.int .i64 0) 1 8 Try.underlying27 hi3 h30 h31 h32 rfl (by decide) _ _ _ rfl (HO1.out.alloc _) ⟨wr.heap.size + 1, 0, none⟩ 1 1 [.int .i64 x.id] rfl rfl (by intro j u hu; have := (Blk.new (wr.alloc (.cells #[.int .i64 x.id, .int .i64 x.fr] 41)) 3 #[.int .i64 x.id]).cell j; cases j with | zero => simpa [Addr.add] using this.trans hu | succ j => simp at hu) (by intro u hu; simp at hu; subst hu; rfl) (by unfold maxLen; omega) (by omega) (by have := HK1.out.size; simp at this ⊢; omega) ?_; intro v5 w5 hown5 hgrow5 _; have HO5 := Lib.hid hown5; have HG5 := Lib.hid hgrow5; clear hown5 hgrow5)
        go_roundw
        case rel =>
          refine ⟨k + 1, by go_num, by omega, ?_, HST.out, kept_grown (HK1.out.alloc _) (HO1.out.alloc _) (Nat.le_refl _) HG5.out⟩
          rw [HTS.out, List.map_append]
          exact HO5.out
        case measure => simp [intOf]; omega
    · obtain rfl : n = k := by omega
      clear ho hp hkp
      go_wp2_with fail
      go_ret
      have e : chk hs = 0 := chk_good ⟨by rw [HN.out]; omega, by rw [HN.out]; exact HP.out⟩
      exact ⟨by (rw [e]) <;> rfl, HK.out⟩
end Go.Proofs.Ytflljldmcidhgaa

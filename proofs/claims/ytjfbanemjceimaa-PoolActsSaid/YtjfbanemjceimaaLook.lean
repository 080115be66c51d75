/- Bytes: SameBytes, Clone, Look. -/
import Derived.Laws.BytesArg
import Derived.Test.YtjfbanemjceimaaRcl
namespace Go.Proofs.Ytjfbanemjceimaa
open Go.RowKit Go.Maps
set_option linter.unusedVariables false
set_option linter.unusedSimpArgs false
set_option linter.unnecessarySimpa false

/-- A slice at address A reads as the bytes xs. -/
def Txt (w : World) (A : Option Addr) (xs : List Int) : Prop := xs ≠ [] → ∃ g o, A = some ⟨g, o, none⟩ ∧ ∀ i, i < xs.length → w.cell? ⟨g, o + i, none⟩ = some (.int .u8 (xs.getD i 0))

theorem Txt.kept {w w' : World} {A : Option Addr} {xs : List Int} (h : Txt w A xs) (hk : Kept w w') : Txt w' A xs := fun hne => by
  obtain ⟨g, o, rfl, hc⟩ := h hne
  exact ⟨g, o, rfl, fun i hi => kept_cell hk (hc i hi)⟩

theorem Txt.nil (w : World) (A : Option Addr) : Txt w A [] := fun h => absurd rfl h

theorem addr_off (b o j : Nat) : (⟨b, o, none⟩ : Addr).add j = ⟨b, o + j, none⟩ := by unfold Addr.add; split <;> simp_all

theorem Txt.of_own {w : World} {base n c : Nat} {A : Option Addr} {xs : List Int} (h : w.ownsRow base 5 1 (.slice A n c) n (xs.map (Value.int .u8))) : Txt w A xs := by
  intro hne
  rcases h.2 with ⟨_, h2⟩ | ⟨g, cap, cur, h1, _⟩
  · have := h.1
    rw [h2] at this
    cases xs with
    | nil => exact absurd rfl hne
    | cons x l => simp at this
  · simp only [Value.slice.injEq] at h1
    obtain ⟨rfl, _, _⟩ := h1
    refine ⟨g, 0, rfl, fun i hi => ?_⟩
    have hc := h.cells (g := g) rfl i (.int .u8 (xs.getD i 0)) (by simp [List.getD, List.getElem?_eq_getElem hi])
    rwa [addr_off] at hc

/-- What a frame's memory holds. -/
def Bts (cs : Array Value) : Prop := cs.size = 152064 ∧ ∀ i, i < 152064 → ∃ v : Int, cs[i]? = some (.int .u8 v)

theorem Z0_bts : Bts Z0 := ⟨Z0_size, fun i hi => ⟨0, Z0_get i hi⟩⟩

def byteAt (cs : Array Value) (i : Nat) : Int := intOf ((cs[i]?).getD (.int .u8 0))

theorem Bts.at_ {cs : Array Value} (h : Bts cs) {i : Nat} (hi : i < 152064) : cs[i]? = some (.int .u8 (byteAt cs i)) := by
  obtain ⟨v, hv⟩ := h.2 i hi
  unfold byteAt
  rw [hv]
  rfl

/-- The first n bytes. -/
def pre (cs : Array Value) (n : Nat) : List Int := (List.range n).map (byteAt cs)

theorem pre_length (cs : Array Value) (n : Nat) : (pre cs n).length = n := by simp [pre]

theorem pre_getD (cs : Array Value) (n i : Nat) (hi : i < n) : (pre cs n).getD i 0 = byteAt cs i := by
  simp [pre, List.getD, hi]

theorem Txt.of_blk {w : World} {m n : Nat} {cs : Array Value} (hb : Blk w m 5 cs) (h : Bts cs) (hn : n ≤ 152064) : Txt w (some ⟨m, 0, none⟩) (pre cs n) := fun _ => ⟨m, 0, rfl, fun i hi => by
  rw [pre_length] at hi
  rw [pre_getD cs n i hi, hb.cell, Nat.zero_add]
  exact h.at_ (by omega)⟩

theorem conv_txt (w : World) (A : Option Addr) (xs : List Int) (c : Nat) (h : Txt w A xs) : (convert 35 9 (.slice A xs.length c)).run Try.prog w = .ok (.string (strOfNums xs)) w := by
  cases xs with
  | nil =>
    show (convert 35 9 (.slice A 0 c)).run Try.prog w = _
    rw [run_convert_bytes_string w 35 9 5 A 0 c Try.underlying35 Try.underlying5 Try.underlying9]
    cases A with
    | none => simp [Conv.bytesToString]; rfl
    | some a =>
      rw [run_bytesToString w a 0 c [] (run_loadCells_list (P := Try.prog) w a [] (fun j v hj => by simp at hj))]
      rfl
  | cons x l =>
    obtain ⟨g, o, rfl, hc⟩ := h (by simp)
    exact run_convert_bytes_arg w 35 5 Try.underlying35 Try.underlying5 g o _ c (x :: l) rfl hc 9 Try.underlying9

theorem same_bytes (A B : Option Addr) (n c c' : Nat) (xs : List Int) (w : World) (hn : n = xs.length) (ha : Txt w A xs) (hb : Txt w B xs) :
    Calls Try.prog 23 #[.slice A n c, .slice B n c'] w fun e w' => e = .returned (.bool true) ∧ w = w' := by
  subst hn
  have h1 := conv_txt w A xs c ha
  have h2 := conv_txt w B xs c' hb
  clear ha hb
  go_enter Try.func23, Try.ntmps23
  go_wp2_with fail
  go_returns
  exact ⟨by simp, rfl⟩

theorem clone_ok (A : Addr) (n c : Nat) (xs : List Int) (w : World) (hn : n = xs.length) (hb : n ≤ 152064) (ha : Txt w (some A) xs) :
    Calls Try.prog 34 #[.slice (some A) n c] w fun e w' => ∃ B c', e = .returned (.slice B n c') ∧ Kept w w' ∧ w'.ownsRow w.heap.size 5 1 (.slice B n c') n (xs.map (Value.int .u8)) := by
  obtain ⟨i5, hi5, h50, h51, h52⟩ := info_parts (show (Try.prog.info? 5).map (fun i => (i.zero, i.size, i.bytes)) = some (some (.int .u8 0), 1, 1) by kernel_rfl)
  have HN := Lib.hid hn
  have hnews : ∀ j u, (xs.map (Value.int .u8))[j]? = some u → (w.alloc (.cells #[] 5)).cell? (A.add j) = some u := by
    intro j u hu
    have hj : j < xs.length := by have := (List.getElem?_eq_some_iff.1 hu).1; simpa using this
    obtain ⟨g, o, e, hc⟩ := ha (by rintro rfl; simp at hj)
    cases e
    rw [addr_off]
    refine kept_cell ((Only.refl (fun _ => False) w).alloc _) ?_
    rw [hc j hj]
    simp [List.getElem?_eq_getElem hj] at hu
    simp [List.getD, List.getElem?_eq_getElem hj, hu]
  have hq := fun w a l c => Lib.run_eql_slice_nil (P := Try.prog) w 35 5 a l c 0 0 Try.underlying35
  have HNEW := Lib.hid hnews
  have HOWN := Lib.hid (World.ownsRow_made (base := w.heap.size) (e := 5) (size := 1) w #[] 0 (Nat.le_refl _) (by unfold maxLen; omega) rfl)
  clear hnews ha hn
  go_enter Try.func34, Try.ntmps34
  go_wp2_with (at_builtin; refine wpList_append_own _ rfl _ _ 35 rfl w.heap.size 5 i5 (.int .u8 0) 1 1 Try.underlying35 hi5 h50 h51 h52 rfl (by decide) _ _ _ rfl HOWN.out A n c (xs.map (Value.int .u8)) rfl (by rw [HN.out]; simp) HNEW.out (by intro u hu; simp at hu; obtain ⟨a, _, rfl⟩ := hu; rfl) (by unfold maxLen; omega) (by omega) (by simp) ?_; intro v5 w5 hown5 hgrow5 _; have HO5 := Lib.hid hown5; have HG5 := Lib.hid (show (w.alloc (.cells #[] 5)).grownBy w5 (some w.heap.size) from hgrow5); clear hown5 hgrow5)
  go_returns
  have h := HO5.out
  rw [Nat.zero_add, List.nil_append] at h
  obtain ⟨B, c', rfl⟩ : ∃ B c', v5 = .slice B n c' := by
    rcases h.2 with ⟨h1, h2⟩ | ⟨g, cap, cur, h1, _⟩
    · exact ⟨none, 0, by rw [h1, h2]⟩
    · exact ⟨_, _, h1⟩
  refine ⟨B, c', rfl, ?_, h⟩
  refine ((Only.refl (fun _ => False) w).alloc (.cells #[] 5)).grown HG5.out (fun k hk hlt => ?_)
  injection hk with hk
  omega

section
variable {p N Q T lo hi : Nat} {fs : List Fr}

theorem pool_look_no (n m : Int) (w : World) (h : Pool w p N Q T lo hi fs) (hw : n < 0 ∨ (N : Int) ≤ n ∨ m < 0 ∨ 152064 < m) :
    Calls Try.prog 11 #[.pointer (some ⟨p, 0, none⟩), .int .i64 n, .int .i64 m] w fun e w' => e = .returned (.tuple #[.slice none 0 0, .int .i64 3]) ∧ w = w' := by
  obtain ⟨fb, ib, cap, mb, fbs, l, f, h⟩ := h
  have k0 := h.idle.box.cell 0
  simp at k0
  have H := Lib.hid h
  clear h
  by_cases h0 : n < 0
  · clear hw
    go_enter Try.func11, Try.ntmps11
    go_wp2_with fail
    refine (pnone_ok p _ _ _ Q _ H.out.idle.box H.out.Q1).mono ?_
    rintro e w' ⟨rfl, rfl⟩
    go_wp2_with fail
    go_returns
    exact ⟨rfl, rfl⟩
  · by_cases h1 : (N : Int) ≤ n
    · clear hw
      go_enter Try.func11, Try.ntmps11
      go_wp2_with fail
      refine (pnone_ok p _ _ _ Q _ H.out.idle.box H.out.Q1).mono ?_
      rintro e w' ⟨rfl, rfl⟩
      go_wp2_with fail
      go_returns
      exact ⟨rfl, rfl⟩
    · by_cases h2 : m < 0
      · clear hw
        go_enter Try.func11, Try.ntmps11
        go_wp2_with fail
        refine (pnone_ok p _ _ _ Q _ H.out.idle.box H.out.Q1).mono ?_
        rintro e w' ⟨rfl, rfl⟩
        go_wp2_with fail
        go_returns
        exact ⟨rfl, rfl⟩
      · have h3 : 152064 < m := by omega
        clear hw
        go_enter Try.func11, Try.ntmps11
        go_wp2_with fail
        refine (pnone_ok p _ _ _ Q _ H.out.idle.box H.out.Q1).mono ?_
        rintro e w' ⟨rfl, rfl⟩
        go_wp2_with fail
        go_returns
        exact ⟨rfl, rfl⟩

theorem maded_get {n m : Nat} {x : Fr} (hx : fs[n]? = some x) : (maded fs n m)[n]? = some ⟨x.own, x.hand, some (m, cont x)⟩ := by
  unfold maded
  rw [hx]
  exact List.getElem?_set_self (List.getElem?_eq_some_iff.1 hx).1

set_option maxHeartbeats 1000000 in
theorem pool_look_ok (n k : Nat) (x : Fr) (w : World) (h : Pool w p N Q T lo hi fs) (hx : fs[n]? = some x) (hbt : Bts (cont x)) (hk : k ≤ 152064) :
    Calls Try.prog 11 #[.pointer (some ⟨p, 0, none⟩), .int .i64 n, .int .i64 k] w fun e w' => ∃ m B c, e = .returned (.tuple #[.slice B k c, .int .i64 0]) ∧ Only (fun k => lo ≤ k ∧ k < hi) w w' ∧ Lies w fs n m ∧
      Pool w' p N Q T lo hi (maded fs n m) ∧ w'.ownsRow w.heap.size 5 1 (.slice B k c) k ((pre (cont x) k).map (Value.int .u8)) := by
  obtain ⟨fb, ib, cap, mb, fbs, l, f, h⟩ := h
  have k0 := h.idle.box.cell 0
  simp at k0
  have hn : n < N := by have := (List.getElem?_eq_some_iff.1 hx).1; have := h.books.len; omega
  obtain ⟨b, y, hb, hy, _, hc⟩ := h.at_ hn
  have HH := Lib.hid h
  have HX := Lib.hid hx
  have HB := Lib.hid hb
  have HBT := Lib.hid hbt
  clear h hx hb hy hbt
  go_enter Try.func11, Try.ntmps11
  go_wp2_with fail
  refine (pnone_ok p _ _ _ Q _ HH.out.idle.box HH.out.Q1).mono ?_
  rintro e w' ⟨rfl, rfl⟩
  go_wp2_with fail
  refine (fmem_ok n b x w HH.out HB.out HX.out).mono ?_
  rintro e w1 ⟨m, rfl, ho, hl, hlt, hpl⟩
  have hxm := maded_get (m := m) HX.out
  obtain ⟨a1, a2, a3⟩ := hpl.mem n _ m _ hxm rfl
  have HT := Lib.hid (Txt.of_blk (n := k) a1 HBT.out hk)
  have HO := Lib.hid ho
  have HL := Lib.hid hl
  have HP := Lib.hid hpl
  clear ho hl hpl hxm a1 a2 a3
  go_wp2_with fail
  refine (clone_ok ⟨m, 0, none⟩ k 152064 _ w1 (pre_length _ _).symm hk HT.out).mono ?_
  rintro e w2 ⟨B, c, rfl, hk2, hown⟩
  have HK2 := Lib.hid hk2
  have HOW := Lib.hid hown
  clear hk2 hown
  go_wp2_with fail
  go_returns
  have hsz := HO.out.size
  refine ⟨m, B, c, rfl, HO.out.trans (HK2.out.mono (fun _ _ f => f.elim)), HL.out, ⟨fb, ib, cap, mb, fbs, l, f, HP.out.kept HK2.out⟩, ?_⟩
  obtain ⟨r1, r2⟩ := HOW.out
  refine ⟨r1, r2.imp id ?_⟩
  rintro ⟨g, cp, cur, e1, e2, e3⟩
  exact ⟨g, cp, cur, e1, by omega, e3⟩
end
end Go.Proofs.Ytjfbanemjceimaa

/- A frame's memory: memory, Memory. -/
import Derived.Test.YtjfbanemjceimaaPlX
namespace Go.Proofs.Ytjfbanemjceimaa
open Go.RowKit Go.Maps
set_option linter.unusedVariables false
set_option linter.unusedSimpArgs false
set_option linter.unnecessarySimpa false

/-- The bytes that memory makes. -/
def Z0 : Array Value := madeCells #[.int .u8 0] 152064

theorem Z0_size : Z0.size = 152064 := size_madeCells _ _

theorem madeCells_one (v : Value) (n i : Nat) (h : i < n) : (madeCells #[v] n)[i]? = some v := by
  unfold madeCells
  rw [Array.getElem?_map, Array.getElem?_range, if_pos h]
  simp [Nat.mod_one]

theorem Z0_get (i : Nat) (h : i < 152064) : Z0[i]? = some (.int .u8 0) := madeCells_one _ _ i h

/-- What is in a frame. -/
def cont (x : Fr) : Array Value := match x.mem with
  | some (_, cs) => cs
  | none => Z0

theorem make_mem (w : World) : (Instr.makeSlice 35 (.int .i64 152064) (.int .i64 152064)).run Try.prog w = .ok (.slice (some ⟨w.heap.size, 0, none⟩) 152064 152064) (w.alloc (.cells Z0 5)) := by
  obtain ⟨i0, hi, hz0, hz1, hz2⟩ := info_parts (show (Try.prog.info? 5).map (fun i => (i.zero, i.size, i.bytes)) = some (some (.int .u8 0), 1, 1) by kernel_rfl)
  have h := run_make_rowN (P := Try.prog) 35 5 i0 _ Try.underlying35 hi hz0 .i64 .i64 152064 152064 (Nat.le_refl _) (by rw [hz2]; omega) (by omega) w
  rw [hz1] at h
  exact h

section
variable {p fb ib cap mb T N Q lo hi : Nat} {fbs : List Nat} {fs : List Fr} {l : List Nat} {f : Int → Int}

theorem fmem_made (b m : Nat) (cs : Array Value) (o d : Value) (w : World) (hb : Blk w b 65 #[o, d, memVal (some (m, cs))]) :
    Calls Try.prog 33 #[.pointer (some ⟨b, 0, none⟩)] w fun e w' => e = .returned (.slice (some ⟨m, 0, none⟩) 152064 152064) ∧ w = w' := by
  have hq := fun w a l c => Lib.run_eql_slice_nil (P := Try.prog) w 35 5 a l c 0 0 Try.underlying35
  have k2 := hb.cell 2
  simp [memVal] at k2
  clear hb
  go_enter Try.func33, Try.ntmps33
  go_wp2_with fail
  go_returns
  exact ⟨rfl, rfl⟩

theorem fmem_new (b : Nat) (o d : Value) (w : World) (hb : Blk w b 65 #[o, d, memVal none]) :
    Calls Try.prog 33 #[.pointer (some ⟨b, 0, none⟩)] w fun e w' => e = .returned (.slice (some ⟨w.heap.size, 0, none⟩) 152064 152064) ∧ Only (fun k => k = b) w w' ∧
      Blk w' b 65 #[o, d, memVal (some (w.heap.size, Z0))] ∧ Blk w' w.heap.size 5 Z0 := by
  have k2 := hb.cell 2
  have z2 := hb.frozen 2
  simp [memVal] at k2
  have hlt := hb.lt
  have HB := Lib.hid hb
  have hmk := make_mem
  have hq := fun w a l c => Lib.run_eql_slice_nil (P := Try.prog) w 35 5 a l c 0 0 Try.underlying35
  clear hb
  go_enter Try.func33, Try.ntmps33
  go_wp2_with fail
  go_returns
  refine ⟨rfl, (((Only.refl (fun k => k = b) w).setOf (o := 2) rfl _).alloc _), ?_, ?_⟩
  · simpa [memVal] using (HB.out.set_ 2 (.slice (some ⟨w.heap.size, 0, none⟩) 152064 152064)).alloc (.cells Z0 5)
  · have h1 := Blk.new (w.setCell ⟨b, 2, none⟩ (.slice (some ⟨w.heap.size, 0, none⟩) 152064 152064)) 5 Z0
    rwa [show (w.setCell ⟨b, 2, none⟩ (.slice (some ⟨w.heap.size, 0, none⟩) 152064 152064)).heap.size = w.heap.size by simp [World.setCell]] at h1

/-- A frame's memory is made, or turned. -/
theorem PL.mem_set {w w' : World} (h : PL w p fb ib cap mb T N Q lo hi fbs fs l f) {n b m : Nat} {x : Fr} {cs' : Array Value} (hb : fbs[n]? = some b) (hx : fs[n]? = some x) (hm0 : w.heap.size ≤ m ∨ ∃ cs, x.mem = some (m, cs))
    (ho : Only (fun k => k = b ∨ k = m) w w') (hbx : Blk w' b 65 #[.int .i64 x.own, .int .i64 x.hand, memVal (some (m, cs'))]) (hm : Blk w' m 5 cs') (hs : cs'.size = 152064) :
    PL w' p fb ib cap mb T N Q lo hi fbs (fs.set n ⟨x.own, x.hand, some (m, cs')⟩) l f := by
  obtain ⟨rcs, hrow, _⟩ := h.idle.row
  have hbb := h.fr n b x hb hx
  have hn := (List.getElem?_eq_some_iff.1 hx).1
  have hhi := h.hiw
  have hmout : ¬ (lo ≤ m ∧ m < hi) := by
    rcases hm0 with h0 | ⟨cs, h0⟩
    · omega
    · exact (h.mem n x m cs hx h0).2.2
  have out : ∀ q, lo ≤ q ∧ q < hi → q ≠ m := by rintro q hq rfl; exact hmout hq
  have hok := h.books.ok n x hx
  exact { h with
    idle := h.idle.keep ho (fun e => e.elim (h.idle.box.ne_ hbb (by decide)) (out p h.inp)) (fun e => e.elim (hrow.ne_ hbb (by decide)) (out ib h.inib))
    tab := ho.blk h.tab (fun e => e.elim (h.tab.ne_ hbb (by decide)) (out fb h.infb))
    fr := fun i c y hc hy => by
      by_cases e : i = n
      · subst e
        rw [hb] at hc; cases hc
        rw [List.getElem?_set_self hn] at hy; cases hy
        exact hbx
      · rw [List.getElem?_set_ne (fun q => e q.symm)] at hy
        refine ho.blk (h.fr i c y hc hy) ?_
        rintro (g | g)
        · subst g; exact e (h.inj i n _ hc hb)
        · exact out c (h.infr i c hc) g
    mem := fun i y m2 cs hy he => by
      by_cases e : i = n
      · subst e
        rw [List.getElem?_set_self hn] at hy; cases hy
        simp at he
        obtain ⟨rfl, rfl⟩ := he
        exact ⟨hm, hs, hmout⟩
      · rw [List.getElem?_set_ne (fun q => e q.symm)] at hy
        obtain ⟨a1, a2, a3⟩ := h.mem i y m2 cs hy he
        refine ⟨ho.blk a1 ?_, a2, a3⟩
        rintro (g | g)
        · exact a1.ne_ hbb (by decide) g
        · subst g
          rcases hm0 with h0 | ⟨cs0, h0⟩
          · have := a1.lt; omega
          · exact e (h.minj i n y x _ cs cs0 hy hx he h0)
    map := h.map.keep ho (fun e => e.elim (fun e => h.map.ne_ hbb e.symm) (out mb h.inmb))
    minj := fun i j y z m2 cs cs2 hy hz hym hzm => by
      have key : ∀ (k : Nat) (u : Fr) (c : Array Value), (fs.set n ⟨x.own, x.hand, some (m, cs')⟩)[k]? = some u → u.mem = some (m2, c) → (k = n ∧ m2 = m) ∨ (k ≠ n ∧ fs[k]? = some u) := fun k u c hu hc => by
        by_cases e : k = n
        · subst e
          rw [List.getElem?_set_self hn] at hu; cases hu
          simp at hc
          exact .inl ⟨rfl, hc.1.symm⟩
        · rw [List.getElem?_set_ne (fun q => e q.symm)] at hu
          exact .inr ⟨e, hu⟩
      have clash : ∀ (k : Nat) (u : Fr) (c : Array Value), fs[k]? = some u → u.mem = some (m, c) → k = n := fun k u c hu hc => by
        rcases hm0 with h0 | ⟨cs0, h0⟩
        · have := (h.mem k u m c hu hc).1.lt; omega
        · exact h.minj k n u x m c cs0 hu hx hc h0
      rcases key i y cs hy hym with ⟨rfl, rfl⟩ | ⟨e1, hy'⟩ <;> rcases key j z cs2 hz hzm with ⟨rfl, e2⟩ | ⟨e2, hz'⟩
      · rfl
      · exact (clash j z cs2 hz' hzm).symm
      · subst e2; exact clash i y cs hy' hym
      · exact h.minj i j y z m2 cs cs2 hy' hz' hym hzm
    hiw := Nat.le_trans h.hiw ho.size
    books := h.books.turn hx (Nat.le_refl _) x.hand (some (m, cs')) hok.2.2.1 hok.2.2.2.1 hok.2.2.2.2 }

/-- Frame n's memory is made, if it was not. -/
def maded (fs : List Fr) (n m : Nat) : List Fr := match fs[n]? with
  | some x => fs.set n ⟨x.own, x.hand, some (m, cont x)⟩
  | none => fs

/-- Where frame n's memory lies. -/
def Lies (w : World) (fs : List Fr) (n m : Nat) : Prop := ∀ x, fs[n]? = some x → (x.mem = none ∧ w.heap.size ≤ m) ∨ ∃ cs, x.mem = some (m, cs)

theorem fmem_ok (n b : Nat) (x : Fr) (w : World) (h : PL w p fb ib cap mb T N Q lo hi fbs fs l f) (hb : fbs[n]? = some b) (hx : fs[n]? = some x) :
    Calls Try.prog 33 #[.pointer (some ⟨b, 0, none⟩)] w fun e w' => ∃ m, e = .returned (.slice (some ⟨m, 0, none⟩) 152064 152064) ∧ Only (fun k => lo ≤ k ∧ k < hi) w w' ∧ Lies w fs n m ∧ m < w'.heap.size ∧
      PL w' p fb ib cap mb T N Q lo hi fbs (maded fs n m) l f := by
  have hbb := h.fr n b x hb hx
  have hm : ∀ m, maded fs n m = fs.set n ⟨x.own, x.hand, some (m, cont x)⟩ := fun m => by unfold maded; rw [hx]
  cases he : x.mem with
  | none =>
    have hc : cont x = Z0 := by unfold cont; rw [he]
    rw [he] at hbb
    refine (fmem_new b _ _ w hbb).mono ?_
    rintro e w' ⟨rfl, ho, hb', hm'⟩
    refine ⟨_, rfl, ho.mono (fun k _ e => by have := h.infr n b hb; omega), ?_, hm'.lt, ?_⟩
    · intro y hy
      rw [hx] at hy; cases hy
      exact .inl ⟨he, Nat.le_refl _⟩
    · rw [hm, hc]
      exact h.mem_set hb hx (.inl (Nat.le_refl _)) (ho.mono (fun k _ e => .inl e)) hb' hm' Z0_size
  | some mc =>
    obtain ⟨m, cs⟩ := mc
    have hc : cont x = cs := by unfold cont; rw [he]
    rw [he] at hbb
    obtain ⟨a1, a2, a3⟩ := h.mem n x m cs hx he
    refine (fmem_made b m cs _ _ w hbb).mono ?_
    rintro e w' ⟨rfl, rfl⟩
    refine ⟨m, rfl, Only.refl _ _, ?_, a1.lt, ?_⟩
    · intro y hy
      rw [hx] at hy; cases hy
      exact .inr ⟨cs, he⟩
    · rw [hm, hc]
      exact h.mem_set hb hx (.inr ⟨cs, he⟩) (Only.refl _ _) hbb a1 a2

theorem pool_mem_no (n o : Int) (w : World) (h : Pool w p N Q T lo hi fs) (hw : why fs n o ≠ 0) :
    Calls Try.prog 10 #[.pointer (some ⟨p, 0, none⟩), .int .i64 n, .int .i64 o] w fun e w' => e = .returned (.tuple #[.slice none 0 0, .int .i64 (why fs n o)]) ∧ w = w' := by
  obtain ⟨fb, ib, cap, mb, fbs, l, f, h⟩ := h
  have hz : (why fs n o == 0) = false := by rw [beq_eq_false_iff_ne]; exact hw
  have hc := pof_no n o w h hw
  obtain ⟨r, hr⟩ : ∃ r, why fs n o = r := ⟨_, rfl⟩
  rw [hr] at hz hc ⊢
  clear h hw hr
  have HC := Lib.hid hc
  clear hc
  go_enter Try.func10, Try.ntmps10
  go_wp2_with fail
  refine HC.out.mono ?_
  rintro e w' ⟨rfl, rfl⟩
  go_wp2_with fail
  go_returns
  exact ⟨rfl, rfl⟩

theorem pool_mem_ok (n : Nat) (x : Fr) (w : World) (h : Pool w p N Q T lo hi fs) (hx : fs[n]? = some x) (h0 : x.own ≠ 0) :
    Calls Try.prog 10 #[.pointer (some ⟨p, 0, none⟩), .int .i64 n, .int .i64 x.own] w fun e w' => ∃ m, e = .returned (.tuple #[.slice (some ⟨m, 0, none⟩) 152064 152064, .int .i64 0]) ∧ Only (fun k => lo ≤ k ∧ k < hi) w w' ∧ Lies w fs n m ∧ m < w'.heap.size ∧
      Pool w' p N Q T lo hi (maded fs n m) := by
  obtain ⟨fb, ib, cap, mb, fbs, l, f, h⟩ := h
  have hn : n < N := by have := (List.getElem?_eq_some_iff.1 hx).1; have := h.books.len; omega
  obtain ⟨b, y, hb, hy, _⟩ := h.at_ hn
  have HH := Lib.hid h
  have HX := Lib.hid hx
  have HB := Lib.hid hb
  clear h hx hb hy
  go_enter Try.func10, Try.ntmps10
  go_wp2_with fail
  refine (pof_ok n b x w HH.out HB.out HX.out h0).mono ?_
  rintro e w' ⟨rfl, rfl⟩
  go_wp2_with fail
  refine (fmem_ok n b x w HH.out HB.out HX.out).mono ?_
  rintro e w' ⟨m, rfl, ho, hl, hlt, hpl⟩
  have HO := Lib.hid ho
  have HL := Lib.hid hl
  have HP := Lib.hid hpl
  clear ho hl hpl
  go_wp2_with fail
  go_returns
  exact ⟨m, rfl, HO.out, HL.out, hlt, fb, ib, cap, mb, fbs, l, f, HP.out⟩
end
end Go.Proofs.Ytjfbanemjceimaa

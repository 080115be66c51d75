/- The document's pool: made, Memory, Look, New. -/
import Derived.Test.YtjfbanemjceimaaRefB
namespace Go.Proofs.Ytjfbanemjceimaa
open Go.RowKit Go.Maps
set_option linter.unusedVariables false
set_option linter.unusedSimpArgs false
set_option linter.unnecessarySimpa false

section
variable {w w2 : World} {q lb N Q T lo hi : Nat} {rs : List Fr}

/-- A frame's memory is made, or turned. -/
theorem RP.mem_set (h : RP w q lb N Q T lo hi rs) {n m : Nat} {x : Fr} {cs' : Array Value} (hx : rs[n]? = some x) (hm0 : w.heap.size ≤ m ∨ ∃ cs, x.mem = some (m, cs))
    (ho : Only (fun k => k = lb ∨ k = m) w w2) (htab : ∃ cs, Blk w2 lb 77 cs ∧ Rows cs N (rs.set n ⟨x.own, x.hand, some (m, cs')⟩)) (hm : Blk w2 m 5 cs') (hs : cs'.size = 152064) :
    RP w2 q lb N Q T lo hi (rs.set n ⟨x.own, x.hand, some (m, cs')⟩) := by
  have hn := (List.getElem?_eq_some_iff.1 hx).1
  have hhi := h.hiw
  have hmhi : hi ≤ m := by
    rcases hm0 with h0 | ⟨cs, h0⟩
    · omega
    · exact (h.mem n x m cs hx h0).2.2
  have hok := h.ok n x hx
  obtain ⟨tcs, ht1, _⟩ := h.tab
  have hq := h.inq
  have key : ∀ (k : Nat) (u : Fr) (m2 : Nat) (c : Array Value), (rs.set n ⟨x.own, x.hand, some (m, cs')⟩)[k]? = some u → u.mem = some (m2, c) → (k = n ∧ m2 = m ∧ c = cs') ∨ (k ≠ n ∧ rs[k]? = some u) := fun k u m2 c hu hc => by
    rcases set_get hx hu with ⟨rfl, rfl⟩ | ⟨e, hu⟩
    · simp at hc
      exact .inl ⟨rfl, hc.1.symm, hc.2.symm⟩
    · exact .inr ⟨e, hu⟩
  have clash : ∀ (k : Nat) (u : Fr) (c : Array Value), rs[k]? = some u → u.mem = some (m, c) → k = n := fun k u c hu hc => by
    rcases hm0 with h0 | ⟨cs0, h0⟩
    · have := (h.mem k u m c hu hc).1.lt; omega
    · exact h.minj k n u x m c cs0 hu hx hc h0
  exact
    { box := ho.blk h.box (fun e => e.elim h.ne (fun e => by omega))
      tab := htab
      len := by simpa using h.len
      mem := fun i y m2 cs hy he => by
        rcases key i y m2 cs hy he with ⟨rfl, rfl, rfl⟩ | ⟨e, hy'⟩
        · exact ⟨hm, hs, hmhi⟩
        · obtain ⟨a1, a2, a3⟩ := h.mem i y m2 cs hy' he
          refine ⟨ho.blk a1 ?_, a2, a3⟩
          rintro (g | g)
          · exact a1.ne_ ht1 (by decide) g
          · subst g; exact e (clash i y cs hy' he)
      minj := fun i j y z m2 cs cs2 hy hz hym hzm => by
        rcases key i y m2 cs hy hym with ⟨rfl, rfl, _⟩ | ⟨e1, hy'⟩ <;> rcases key j z _ cs2 hz hzm with ⟨rfl, e2, _⟩ | ⟨e2, hz'⟩
        · rfl
        · exact (clash j z cs2 hz' hzm).symm
        · subst e2; exact clash i y cs hy' hym
        · exact h.minj i j y z m2 cs cs2 hy' hz' hym hzm
      inq := h.inq
      inlb := h.inlb
      hiw := Nat.le_trans h.hiw ho.size
      N64 := h.N64
      T1 := h.T1
      ok := fun i y hy => by
        rcases set_get hx hy with ⟨rfl, rfl⟩ | ⟨e, hy⟩
        · exact hok
        · exact h.ok i y hy }

theorem maded_same {n m : Nat} {x : Fr} {cs : Array Value} (hx : rs[n]? = some x) (hm : x.mem = some (m, cs)) : maded rs n m = rs := by
  unfold maded
  rw [hx]
  have : (⟨x.own, x.hand, some (m, cont x)⟩ : Fr) = x := by
    unfold cont
    rw [hm]
    obtain ⟨a, b, c⟩ := x
    simp at hm
    rw [hm]
  show rs.set n ⟨x.own, x.hand, some (m, cont x)⟩ = rs
  rw [this]
  obtain ⟨hn, e⟩ := List.getElem?_eq_some_iff.1 hx
  rw [← e]
  exact List.set_getElem_self hn

theorem maded_new {n m : Nat} {x : Fr} (hx : rs[n]? = some x) (hm : x.mem = none) : maded rs n m = rs.set n ⟨x.own, x.hand, some (m, Z0)⟩ := by
  unfold maded
  rw [hx]
  show rs.set n ⟨x.own, x.hand, some (m, cont x)⟩ = _
  rw [show cont x = Z0 by unfold cont; rw [hm]]

theorem rmade_ok (n : Nat) (x : Fr) (w : World) (h : RP w q lb N Q T lo hi rs) (hx : rs[n]? = some x) :
    Calls Try.prog 47 #[.pointer (some ⟨q, 0, none⟩), .int .i64 n] w fun e w' => ∃ m, e = .returned (.slice (some ⟨m, 0, none⟩) 152064 152064) ∧ Only (fun k => k = lb) w w' ∧ Lies w rs n m ∧ m < w'.heap.size ∧ RP w' q lb N Q T lo hi (maded rs n m) := by
  have hlen := h.len
  have k0 := h.box.cell 0
  simp at k0
  have hne := h.ne
  have hn : n < N := by have := (List.getElem?_eq_some_iff.1 hx).1; omega
  obtain ⟨cs, htab, hrows⟩ := h.tab
  obtain ⟨a, b, c⟩ := hrows.2 n x hx
  have c2 := (htab.cell (n * 3 + 2)).trans c
  have y2 := htab.frozen (n * 3 + 2)
  have hlt := htab.lt
  have hqlt := h.box.lt
  have z1 : (0 : Int) ≤ (n : Int) := by omega
  have z2 : (n : Int) < (N : Int) := by omega
  have H := Lib.hid h
  have HX := Lib.hid hx
  have HT := Lib.hid htab
  have HR := Lib.hid hrows
  clear h htab hrows a b c hx
  cases hm : x.mem with
  | some mc =>
    obtain ⟨m, mcs⟩ := mc
    rw [hm] at c2
    simp [memVal] at c2
    have HM := Lib.hid hm
    clear hm
    go_enter Try.func47, Try.ntmps47
    go_wp2_with fail
    go_returns
    refine ⟨m, rfl, Only.refl _ _, ?_, (H.out.mem n x m mcs HX.out HM.out).1.lt, ?_⟩
    · intro y hy
      rw [HX.out] at hy; cases hy
      exact .inr ⟨mcs, HM.out⟩
    · rw [maded_same HX.out HM.out]; exact H.out
  | none =>
    rw [hm] at c2
    simp [memVal] at c2
    have HM := Lib.hid hm
    have hmk := make_mem
    clear hm
    go_enter Try.func47, Try.ntmps47
    go_wp2_with fail
    go_region
    have hO : Only (fun k => k = lb) w ((w.setCell ⟨lb, n * 3 + 2, none⟩ (.slice (some ⟨w.heap.size, 0, none⟩) 152064 152064)).alloc (.cells Z0 5)).drew := ((only_lb lb _ _).alloc _).drew
    have hB : Blk ((w.setCell ⟨lb, n * 3 + 2, none⟩ (.slice (some ⟨w.heap.size, 0, none⟩) 152064 152064)).alloc (.cells Z0 5)).drew lb 77 (cs.setIfInBounds (n * 3 + 2) (.slice (some ⟨w.heap.size, 0, none⟩) 152064 152064)) := ((HT.out.set_ _ _).alloc _).drew
    have hM : Blk ((w.setCell ⟨lb, n * 3 + 2, none⟩ (.slice (some ⟨w.heap.size, 0, none⟩) 152064 152064)).alloc (.cells Z0 5)).drew w.heap.size 5 Z0 := by
      have h1 := Blk.new (w.setCell ⟨lb, n * 3 + 2, none⟩ (.slice (some ⟨w.heap.size, 0, none⟩) 152064 152064)) 5 Z0
      rw [show (w.setCell ⟨lb, n * 3 + 2, none⟩ (.slice (some ⟨w.heap.size, 0, none⟩) 152064 152064)).heap.size = w.heap.size by simp [World.setCell]] at h1
      exact h1.drew
    have hR : Rows (cs.setIfInBounds (n * 3 + 2) (.slice (some ⟨w.heap.size, 0, none⟩) 152064 152064)) N (rs.set n ⟨x.own, x.hand, some (w.heap.size, Z0)⟩) := HR.out.set_ H.out.len HX.out (.inr (.inr ⟨rfl, rfl, rfl, rfl⟩))
    have hRP := H.out.mem_set HX.out (.inl (Nat.le_refl _)) (hO.mono (fun k _ e => .inl e)) ⟨_, hB, hR⟩ hM Z0_size
    generalize ((w.setCell ⟨lb, n * 3 + 2, none⟩ (.slice (some ⟨w.heap.size, 0, none⟩) 152064 152064)).alloc (.cells Z0 5)).drew = w3 at *
    have k0 := hRP.box.cell 0
    simp at k0
    have c2 : w3.cell? ⟨lb, n * 3 + 2, none⟩ = some (.slice (some ⟨w.heap.size, 0, none⟩) 152064 152064) := (hB.cell _).trans (Array.getElem?_setIfInBounds_self_of_lt (by have := HR.out.1; omega))
    have HO := Lib.hid hO
    have HM3 := Lib.hid hM.lt
    have HRP := Lib.hid hRP
    clear hO hB hM hR hRP
    go_wp2_with fail
    go_returns
    refine ⟨_, rfl, HO.out, ?_, HM3.out, ?_⟩
    · intro y hy
      rw [HX.out] at hy; cases hy
      exact .inl ⟨HM.out, Nat.le_refl _⟩
    · rw [maded_new HX.out HM.out]; exact HRP.out

theorem rmem_no (n o : Int) (w : World) (h : RP w q lb N Q T lo hi rs) (hw : why rs n o ≠ 0) :
    Calls Try.prog 38 #[.pointer (some ⟨q, 0, none⟩), .int .i64 n, .int .i64 o] w fun e w' => e = .returned (.tuple #[.slice none 0 0, .int .i64 (why rs n o)]) ∧ w = w' := by
  have hc := rref_ok n o w h
  obtain ⟨r, hr⟩ : ∃ r, why rs n o = r := ⟨_, rfl⟩
  rw [hr] at hc hw ⊢
  have hz : (r == 0) = false := by rw [beq_eq_false_iff_ne]; exact hw
  have HC := Lib.hid hc
  clear h hr hc
  go_enter Try.func38, Try.ntmps38
  go_wp2_with fail
  refine HC.out.mono ?_
  rintro e w' ⟨rfl, rfl⟩
  go_wp2_with fail
  go_returns
  exact ⟨rfl, rfl⟩

theorem rmem_ok (n : Nat) (o : Int) (x : Fr) (w : World) (h : RP w q lb N Q T lo hi rs) (hx : rs[n]? = some x) (hw : why rs n o = 0) :
    Calls Try.prog 38 #[.pointer (some ⟨q, 0, none⟩), .int .i64 n, .int .i64 o] w fun e w' => ∃ m, e = .returned (.tuple #[.slice (some ⟨m, 0, none⟩) 152064 152064, .int .i64 0]) ∧ Only (fun k => k = lb) w w' ∧ Lies w rs n m ∧ m < w'.heap.size ∧ RP w' q lb N Q T lo hi (maded rs n m) := by
  have hc := rref_ok n o w h
  rw [hw] at hc
  have HC := Lib.hid hc
  have HM := Lib.hid (rmade_ok n x w h hx)
  clear h hw hc hx
  go_enter Try.func38, Try.ntmps38
  go_wp2_with fail
  refine HC.out.mono ?_
  rintro e w' ⟨rfl, rfl⟩
  go_wp2_with fail
  refine HM.out.mono ?_
  rintro e w1 ⟨m, rfl, h1, h2, h3, h4⟩
  have H1 := Lib.hid h1
  have H2 := Lib.hid h2
  have H3 := Lib.hid h3
  have H4 := Lib.hid h4
  clear h1 h2 h3 h4
  go_wp2_with fail
  go_returns
  exact ⟨m, rfl, H1.out, H2.out, H3.out, H4.out⟩

theorem rlook_no (n m : Int) (w : World) (h : RP w q lb N Q T lo hi rs) (hw : n < 0 ∨ (N : Int) ≤ n ∨ m < 0 ∨ 152064 < m) :
    Calls Try.prog 40 #[.pointer (some ⟨q, 0, none⟩), .int .i64 n, .int .i64 m] w fun e w' => e = .returned (.tuple #[.slice none 0 0, .int .i64 3]) ∧ w = w' := by
  have k0 := h.box.cell 0
  simp at k0
  clear h
  by_cases h0 : n < 0
  · clear hw
    go_enter Try.func40, Try.ntmps40
    go_wp2_with fail
    go_returns
    exact ⟨rfl, rfl⟩
  · by_cases h1 : (N : Int) ≤ n
    · clear hw
      go_enter Try.func40, Try.ntmps40
      go_wp2_with fail
      go_returns
      exact ⟨rfl, rfl⟩
    · by_cases h2 : m < 0
      · clear hw
        go_enter Try.func40, Try.ntmps40
        go_wp2_with fail
        go_returns
        exact ⟨rfl, rfl⟩
      · have h3 : 152064 < m := by omega
        clear hw
        go_enter Try.func40, Try.ntmps40
        go_wp2_with fail
        go_returns
        exact ⟨rfl, rfl⟩

end
end Go.Proofs.Ytjfbanemjceimaa

/- Holders' Pop and Push, container/heap's up. -/
import Derived.Deep.AppendLies
import Derived.Test.YtflljldmcidhgaaHoB
namespace Go.Proofs.Ytflljldmcidhgaa
open Go.RowKit
set_option linter.unusedVariables false
set_option linter.unusedSimpArgs false
set_option linter.unnecessarySimpa false

theorem as41 (a b : Int) (w : World) : (Instr.typeAssert (.iface 41 (.agg #[.int .i64 a, .int .i64 b])) 20 41 false).run Try.prog w = .ok (.agg #[.int .i64 a, .int .i64 b]) w := by kernel_rfl

def Hd.cells (x : Hd) : List Value := [.int .i64 x.id, .int .i64 x.fr]

theorem hcells_length (l : List Hd) : (l.flatMap Hd.cells).length = l.length * 2 := by
  induction l with
  | nil => rfl
  | cons x l ih => simp [ih, Hd.cells]; omega

theorem hflat_get : ∀ (l : List Hd) (i j : Nat) (x : Hd), l[i]? = some x → j < 2 → (l.flatMap Hd.cells)[i * 2 + j]? = x.cells[j]?
  | [], i, j, x, h, _ => by simp at h
  | y :: l, 0, j, x, h, hj => by
    simp at h
    subst h
    simp only [List.flatMap_cons, Nat.zero_mul, Nat.zero_add]
    rw [List.getElem?_append_left (by simp [Hd.cells]; omega)]
  | y :: l, i + 1, j, x, h, hj => by
    simp only [List.flatMap_cons]
    rw [List.getElem?_append_right (by simp [Hd.cells]; omega)]
    have := hflat_get l i j x (by simpa using h) hj
    rw [← this]
    congr 1
    simp [Hd.cells]
    omega

theorem hcells_new (w : World) (x : Hd) (t : TypeId) : ∀ j u, x.cells[j]? = some u → (w.alloc (.cells #[.int .i64 x.id, .int .i64 x.fr] t)).cell? ((⟨w.heap.size, 0, none⟩ : Addr).add j) = some u := by
  intro j u hj
  have h := (Blk.new w t #[.int .i64 x.id, .int .i64 x.fr]).cell j
  rw [Addr.add_lit, Nat.zero_add, h]
  rw [← hj]
  simp [Hd.cells]

theorem h_oneCell (x : Hd) : ∀ u ∈ x.cells, u.oneCell' = true := by
  intro u hu
  simp [Hd.cells] at hu
  rcases hu with rfl | rfl <;> rfl

theorem row_own {w : World} {base g cap : Nat} {l : List Hd} (h : Row w g cap l) (hc : l.length ≤ cap) (hm : cap ≤ maxLen) (hb : base ≤ g) : w.ownsRow base 41 2 (.slice (some ⟨g, 0, none⟩) l.length cap) l.length (l.flatMap Hd.cells) := by
  obtain ⟨cs, h1, h2, h3⟩ := h
  refine ⟨hcells_length l, .inr ⟨g, cap, cs, rfl, hb, h1, hc, hm, h2, ?_⟩⟩
  apply List.ext_getElem?
  intro i
  by_cases hi : i < l.length * 2
  · obtain ⟨x, hx⟩ : ∃ x, l[i / 2]? = some x := ⟨_, List.getElem?_eq_getElem (by omega)⟩
    obtain ⟨a1, a2, _⟩ := h3 (i / 2) x hx
    have hf := hflat_get l (i / 2) (i % 2) x hx (by omega)
    rw [show i / 2 * 2 + i % 2 = i by omega] at hf
    rw [hf, List.getElem?_take, if_pos hi, Array.getElem?_toList]
    rcases (show i % 2 = 0 ∨ i % 2 = 1 by omega) with e | e
    · rw [e]
      rw [show i / 2 * 2 = i by omega] at a1
      rw [a1]; rfl
    · rw [e]
      rw [show i / 2 * 2 + 1 = i by omega] at a2
      rw [a2]; rfl
  · rw [List.getElem?_eq_none (by simp; omega), List.getElem?_eq_none (by rw [hcells_length]; omega)]

theorem own_row {w : World} {base g n cap : Nat} {l : List Hd} (h : w.ownsRow base 41 2 (.slice (some ⟨g, 0, none⟩) n cap) n (l.flatMap Hd.cells)) (hn : l.length = n) (hok : ∀ x ∈ l, Hok x) :
    Row w g cap l ∧ n ≤ cap ∧ cap ≤ maxLen ∧ base ≤ g := by
  rcases h.2 with ⟨h1, _⟩ | ⟨g', cap', cur, h1, h2, h3, h4, h5, h6, h7⟩
  · cases h1
  · injection h1 with e1 e2 e3
    injection e1 with e1
    injection e1 with e1
    subst e1 e3
    refine ⟨⟨cur, h3, h6, fun k x hx => ?_⟩, h4, h5, h2⟩
    have hk := (List.getElem?_eq_some_iff.1 hx).1
    have get : ∀ j, j < 2 → cur[k * 2 + j]? = x.cells[j]? := fun j hj => by
      have := hflat_get l k j x hx hj
      rw [← h7, List.getElem?_take, if_pos (by omega), Array.getElem?_toList] at this
      exact this
    exact ⟨get 0 (by omega), get 1 (by omega), hok x (List.mem_iff_getElem?.2 ⟨k, hx⟩)⟩

set_option maxHeartbeats 1000000 in
theorem hpopm_ok (p ib cap n : Nat) (x : Hd) (w : World) (hb : Blk w p 50 #[.slice (some ⟨ib, 0, none⟩) (n + 1) cap]) (hx : At w ib n x) (hc : n + 1 ≤ cap) (hn : n ≤ 1000) (hpi : p ≠ ib) :
    Calls Try.prog 55 #[.pointer (some ⟨p, 0, none⟩)] w fun e w' => e = .returned (.iface 41 (.agg #[.int .i64 x.id, .int .i64 x.fr])) ∧ Blk w' p 50 #[.slice (some ⟨ib, 0, none⟩) n cap] ∧ Only (fun k => k = p) w w' := by
  have k1 := hb.cell 0
  have z1 := hb.frozen 0
  obtain ⟨r1, r2⟩ := hx
  simp at k1
  have hltp := hb.lt
  have hlti := cell_lt r1
  simp only at hlti
  have hwn : IntKind.i64.wrap (n : Int) = (n : Int) := by rw [IntKind.wrap_i64]; omega
  have HB := Lib.hid hb
  have i0 : (0 : Int) ≤ (n : Int) := by omega
  have i1 : (n : Int) < ((n + 1 : Nat) : Int) := by omega
  have i2 : (n : Int) ≤ (cap : Int) := by omega
  clear hb
  go_enter Try.func55, Try.ntmps55
  go_wp2_with fail
  go_region
  go_wp2_with fail
  obtain ⟨q, hq⟩ : ∃ q, w.heap.size = q := ⟨_, rfl⟩
  have B1 : Blk (w.alloc (.cells #[.int .i64 x.id, .int .i64 x.fr] 41)).drew p 50 _ := (HB.out.alloc _).drew
  have X1 : Blk (w.alloc (.cells #[.int .i64 x.id, .int .i64 x.fr] 41)).drew w.heap.size 41 _ := (Blk.new w _ _).drew
  have O1 : Only (fun k => k = p) w (w.alloc (.cells #[.int .i64 x.id, .int .i64 x.fr] 41)).drew := ((Only.refl _ w).alloc _).drew
  rw [hq] at X1 hltp ⊢
  clear hq
  generalize (w.alloc (.cells #[.int .i64 x.id, .int .i64 x.fr] 41)).drew = W at *
  clear k1 z1 r1 r2 hlti
  have k1 := B1.cell 0
  have z1 := B1.frozen 0
  have x1 := X1.cell 0
  have x2 := X1.cell 1
  simp at k1 x1 x2
  have hpq : p ≠ q := by omega
  have HB1 := Lib.hid B1
  have HO1 := Lib.hid O1
  clear B1 O1 X1
  go_region
  go_wp2_with fail
  go_ret
  exact ⟨rfl, Blk.drew (by simpa using HB1.out.set_ 0 (.slice (some ⟨ib, 0, none⟩) n cap)), (HO1.out.setOf (o := 0) rfl _).drew⟩


theorem up_calls (p ib cap L j : Nat) (l : List Hd) (w : World) (hp : w.cell? ⟨p, 0, none⟩ = some (.slice (some ⟨ib, 0, none⟩) L cap)) (hpi : p ≠ ib) (hr : Row w ib cap l) (hL : l.length = L) (hj : j < L) (hb : L ≤ 1000)
    (hd : UpF (kk kh l) L j) :
    Calls Try.prog 33 #[.iface 52 (.pointer (some ⟨p, 0, none⟩)), .int .i64 j] w fun e w' => (∃ v, e = .returned v) ∧ ∃ l', Row w' ib cap l' ∧ l'.Perm l ∧ HeapF (kk kh l') L ∧ Only (fun k => k = ib) w w' := by
  have HR := Lib.hid hr
  have HL := Lib.hid hL
  have HD := Lib.hid hd
  clear hr hL hd
  go_enter Try.func33, Try.ntmps33
  go_wp2_with fail
  go_loopw [1, 4] (fun v _ wr => ∃ (j : Nat) (l1 : List Hd), v = .int .i64 j ∧ j < L ∧ Row wr ib cap l1 ∧ l1.Perm l ∧ UpF (kk kh l1) L j ∧ Only (fun k => k = ib) w wr) (fun v _ _ => (intOf v).toNat)
  case atStart => exact ⟨j, l, rfl, by omega, HR.out, List.Perm.refl _, HD.out, Only.refl _ _⟩
  case round =>
    obtain ⟨j, l1, rfl, hj, hr, hpm, hd, ho⟩ := hrel
    have H1 := Lib.hid hr
    have H2 := Lib.hid hpm
    have H4 := Lib.hid hd
    have H5 := Lib.hid ho
    have hl1 : Hid (l1.length = L) := Lib.hid (by rw [hpm.length_eq, HL.out])
    have hc := only_cell ho hp hpi
    clear hr hpm hd ho
    obtain ⟨i, hi⟩ : ∃ i, (j - 1) / 2 = i := ⟨_, rfl⟩
    have hq : ((j : Int) - 1).tdiv 2 = (i : Int) := by
      by_cases h0 : j = 0
      · subst h0; obtain rfl : i = 0 := by omega
        rfl
      · rw [Int.tdiv_eq_ediv_of_nonneg (by omega)]; omega
    have HI := Lib.hid hi
    by_cases h0 : j = 0
    · have hij : ((i : Int) == (j : Int)) = true := by rw [beq_iff_eq]; omega
      clear hi
      go_wp2_with fail
      go_end0
      exact ⟨⟨_, rfl⟩, l1, H1.out, H2.out, up_end H4.out (fun h => absurd h (by omega)), H5.out⟩
    · have hij : ((i : Int) == (j : Int)) = false := by rw [beq_eq_false_iff_ne]; omega
      have hil : i < j := by omega
      clear hi
      obtain ⟨x, hx⟩ : ∃ x, l1[j]? = some x := ⟨_, List.getElem?_eq_getElem (by rw [hl1.out]; omega)⟩
      obtain ⟨y, hy⟩ : ∃ y, l1[i]? = some y := ⟨_, List.getElem?_eq_getElem (by rw [hl1.out]; omega)⟩
      have HX := Lib.hid hx
      have HY := Lib.hid hy
      clear hx hy
      have hm2 := m_less p 0 wr _ hc
      go_wp2_with fail
      refine (H1.out.less (i := j) (j := i) (x := x) (y := y) hl1.out HX.out HY.out).mono ?_
      rintro e w3 ⟨rfl, hr3, hk3⟩
      have hc3 := kept_cell hk3 hc
      have HR3 := Lib.hid hr3
      have HK3 := Lib.hid (H5.out.trans (Only.mono (S' := fun k => k = ib) hk3 (fun _ _ f => f.elim)))
      clear hr3 hk3
      by_cases hlt : kh x < kh y
      · have hdt : lessB x y = true := less_t (H1.out.ok HX.out) (H1.out.ok HY.out) ‹_›
        have hm3 := m_swap p 0 w3 _ hc3
        go_wp2_with fail
        refine (HR3.out.swap (i := i) (j := j) hl1.out (by omega) (by omega)).mono ?_
        rintro e w4 ⟨⟨v4, rfl⟩, hr4, ho4⟩
        have H6 := Lib.hid hr4
        have H7 := Lib.hid ho4
        clear hr4 ho4
        go_wp2_with fail
        go_roundw
        case rel =>
          refine ⟨i, swp l1 i j, by go_num, by omega, H6.out, (swp_perm l1 i j).trans H2.out, ?_, (HK3.out.trans H7.out)⟩
          rw [kk_swp kh l1 (by rw [hl1.out]; omega) (by rw [hl1.out]; omega)]
          have := up_step H4.out (by omega) hj (by rw [HI.out, kk_at kh HX.out, kk_at kh HY.out]; omega)
          rw [HI.out] at this
          exact this
        case measure => simp [intOf]; omega
      · have hdf : lessB x y = false := less_f (H1.out.ok HX.out) (H1.out.ok HY.out) ‹_›
        go_wp2_with fail
        go_end0
        exact ⟨⟨_, rfl⟩, l1, HR3.out, H2.out, up_end H4.out (fun _ => by rw [HI.out, kk_at kh HX.out, kk_at kh HY.out]; omega), HK3.out⟩
end Go.Proofs.Ytflljldmcidhgaa

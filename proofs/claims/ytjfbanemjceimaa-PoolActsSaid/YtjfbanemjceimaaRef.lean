/- The document's pool: its word; Held, Free, refuses. -/
import Derived.Test.YtjfbanemjceimaaCtP
namespace Go.Proofs.Ytjfbanemjceimaa
open Go.RowKit Go.Maps
set_option linter.unusedVariables false
set_option linter.unusedSimpArgs false
set_option linter.unnecessarySimpa false

/-- The cells of a list of frames. -/
def Rows (cs : Array Value) (N : Nat) (rs : List Fr) : Prop :=
  cs.size = N * 3 ∧ ∀ (i : Nat) (x : Fr), rs[i]? = some x → cs[i * 3]? = some (.int .i64 x.own) ∧ cs[i * 3 + 1]? = some (.int .i64 x.hand) ∧ cs[i * 3 + 2]? = some (memVal x.mem)

theorem Rows.set_ {cs : Array Value} {N n j : Nat} {rs : List Fr} {x y : Fr} {v : Value} (h : Rows cs N rs) (hl : rs.length = N) (hx : rs[n]? = some x)
    (hy : (j = 0 ∧ v = .int .i64 y.own ∧ y.hand = x.hand ∧ y.mem = x.mem) ∨ (j = 1 ∧ v = .int .i64 y.hand ∧ y.own = x.own ∧ y.mem = x.mem) ∨ (j = 2 ∧ v = memVal y.mem ∧ y.own = x.own ∧ y.hand = x.hand)) :
    Rows (cs.setIfInBounds (n * 3 + j) v) N (rs.set n y) := by
  obtain ⟨h1, h2⟩ := h
  have hn := (List.getElem?_eq_some_iff.1 hx).1
  refine ⟨by simpa using h1, fun i z hz => ?_⟩
  rcases set_get hx hz with ⟨rfl, rfl⟩ | ⟨e, hz⟩
  · obtain ⟨a, b, c⟩ := h2 i x hx
    rcases hy with ⟨rfl, rfl, e1, e2⟩ | ⟨rfl, rfl, e1, e2⟩ | ⟨rfl, rfl, e1, e2⟩
    · exact ⟨Array.getElem?_setIfInBounds_self_of_lt (by omega), by rw [Array.getElem?_setIfInBounds_ne (by omega), b, e1], by rw [Array.getElem?_setIfInBounds_ne (by omega), c, e2]⟩
    · exact ⟨by rw [Array.getElem?_setIfInBounds_ne (by omega), a, e1], Array.getElem?_setIfInBounds_self_of_lt (by omega), by rw [Array.getElem?_setIfInBounds_ne (by omega), c, e2]⟩
    · exact ⟨by rw [Array.getElem?_setIfInBounds_ne (by omega), a, e1], by rw [Array.getElem?_setIfInBounds_ne (by omega), b, e2], Array.getElem?_setIfInBounds_self_of_lt (by omega)⟩
  · obtain ⟨a, b, c⟩ := h2 i z hz
    have hj : j < 3 := by rcases hy with ⟨rfl, _⟩ | ⟨rfl, _⟩ | ⟨rfl, _⟩ <;> omega
    exact ⟨by rw [Array.getElem?_setIfInBounds_ne (by omega), a], by rw [Array.getElem?_setIfInBounds_ne (by omega), b], by rw [Array.getElem?_setIfInBounds_ne (by omega), c]⟩

/-- The document's pool at q, its frames at lb. -/
structure RP (w : World) (q lb N Q T lo hi : Nat) (rs : List Fr) : Prop where
  box : Blk w q 74 #[.slice (some ⟨lb, 0, none⟩) N N, .int .i64 (Q : Int)]
  tab : ∃ cs, Blk w lb 77 cs ∧ Rows cs N rs
  len : rs.length = N
  mem : ∀ (i : Nat) (x : Fr) (m : Nat) (cs : Array Value), rs[i]? = some x → x.mem = some (m, cs) → Blk w m 5 cs ∧ cs.size = 152064 ∧ hi ≤ m
  minj : ∀ (i j : Nat) (x y : Fr) (m : Nat) (cs cs' : Array Value), rs[i]? = some x → rs[j]? = some y → x.mem = some (m, cs) → y.mem = some (m, cs') → i = j
  inq : lo ≤ q ∧ q < hi
  inlb : lo ≤ lb ∧ lb < hi
  hiw : hi ≤ w.heap.size
  N64 : N ≤ 64
  T1 : T ≤ 900000
  ok : ∀ (i : Nat) (x : Fr), rs[i]? = some x → 0 ≤ x.hand ∧ x.hand ≤ T

section
variable {w w2 : World} {q lb N Q T T' lo hi : Nat} {rs rs' : List Fr}

theorem RP.keep (h : RP w q lb N Q T lo hi rs) {S : Nat → Prop} (ho : Only S w w2) (hs : ∀ k, lo ≤ k → k < hi → ¬ S k) (hm : ∀ (i : Nat) (x : Fr) (m : Nat) (cs : Array Value), rs[i]? = some x → x.mem = some (m, cs) → ¬ S m) : RP w2 q lb N Q T lo hi rs := by
  obtain ⟨cs, h1, h2⟩ := h.tab
  exact { h with
    box := ho.blk h.box (hs _ h.inq.1 h.inq.2)
    tab := ⟨cs, ho.blk h1 (hs _ h.inlb.1 h.inlb.2), h2⟩
    mem := fun i x m cs hx he => by obtain ⟨a, b, c⟩ := h.mem i x m cs hx he; exact ⟨ho.blk a (hm i x m cs hx he), b, c⟩
    hiw := Nat.le_trans h.hiw ho.size }

theorem RP.kept (h : RP w q lb N Q T lo hi rs) (ho : Kept w w2) : RP w2 q lb N Q T lo hi rs := h.keep ho (fun _ _ _ f => f) (fun _ _ _ _ _ _ f => f)

theorem RP.mono (h : RP w q lb N Q T lo hi rs) (hT : T ≤ T') (hT' : T' ≤ 900000) : RP w q lb N Q T' lo hi rs :=
  { h with T1 := hT', ok := fun i x hx => by have := h.ok i x hx; omega }

theorem RP.ne (h : RP w q lb N Q T lo hi rs) : q ≠ lb := by
  obtain ⟨cs, h1, h2⟩ := h.tab
  exact h.box.ne_ h1 (by decide)

/-- A cell of the frames has turned. -/
theorem RP.set_ (h : RP w q lb N Q T lo hi rs) {n j : Nat} {x y : Fr} {v : Value} (hx : rs[n]? = some x) (hm : y.mem = x.mem)
    (hy : (j = 0 ∧ v = .int .i64 y.own ∧ y.hand = x.hand ∧ y.mem = x.mem) ∨ (j = 1 ∧ v = .int .i64 y.hand ∧ y.own = x.own ∧ y.mem = x.mem))
    (hk : 0 ≤ y.hand ∧ y.hand ≤ T') (hT : T ≤ T') (hT' : T' ≤ 900000) : RP (w.setCell ⟨lb, n * 3 + j, none⟩ v) q lb N Q T' lo hi (rs.set n y) := by
  obtain ⟨cs, h1, h2⟩ := h.tab
  have hO : Only (fun k => k = lb) w (w.setCell ⟨lb, n * 3 + j, none⟩ v) := (Only.refl (fun k => k = lb) w).setOf (o := n * 3 + j) rfl _
  have hsz : ∀ (i : Nat) (z : Fr), (rs.set n y)[i]? = some z → ∃ x', rs[i]? = some x' ∧ z.mem = x'.mem ∧ (z = y ∨ z = x') := fun i z hz => by
    rcases set_get hx hz with ⟨rfl, rfl⟩ | ⟨e, hz⟩
    · exact ⟨x, hx, hm, .inl rfl⟩
    · exact ⟨z, hz, rfl, .inr rfl⟩
  exact
    { box := hO.blk h.box h.ne
      tab := ⟨_, h1.set_ _ _, h2.set_ h.len hx (by rcases hy with hy | hy; exact .inl hy; exact .inr (.inl hy))⟩
      len := by simpa using h.len
      mem := fun i z m cs' hz he => by
        obtain ⟨x', hx', e, _⟩ := hsz i z hz
        obtain ⟨a, b, c⟩ := h.mem i x' m cs' hx' (by rw [← e]; exact he)
        exact ⟨hO.blk a (a.ne_ h1 (by decide)), b, c⟩
      minj := fun i j' z z' m c1 c2 hz hz' e1 e2 => by
        obtain ⟨x1, hx1, f1, _⟩ := hsz i z hz
        obtain ⟨x2, hx2, f2, _⟩ := hsz j' z' hz'
        exact h.minj i j' x1 x2 m c1 c2 hx1 hx2 (by rw [← f1]; exact e1) (by rw [← f2]; exact e2)
      inq := h.inq
      inlb := h.inlb
      hiw := Nat.le_trans h.hiw hO.size
      N64 := h.N64
      T1 := hT'
      ok := fun i z hz => by
        obtain ⟨x', hx', _, e⟩ := hsz i z hz
        rcases e with rfl | rfl
        · exact hk
        · have := h.ok i z hx'; omega }

theorem rheld_ok (o : Int) (w : World) (h : RP w q lb N Q T lo hi rs) :
    Calls Try.prog 43 #[.pointer (some ⟨q, 0, none⟩), .int .i64 o] w fun e w' => e = .returned (.int .i64 (many rs o)) ∧ w = w' := by
  have k0 := h.box.cell 0
  simp at k0
  obtain ⟨cs, htab, hrows⟩ := h.tab
  have hlen := h.len
  have hN := h.N64
  have HT := Lib.hid htab
  have HR := Lib.hid hrows
  clear h htab hrows
  go_enter Try.func43, Try.ntmps43
  go_wp2_with fail
  go_loopw [5, 6] (fun s v wr => ∃ k : Nat, v = .int .i64 k ∧ k ≤ N ∧ s = .int .i64 (many (rs.take k) o) ∧ w = wr) (fun _ v _ => N - (intOf v).toNat)
  case atStart => exact ⟨0, rfl, by omega, by simp [many, cnt], rfl⟩
  case round =>
    obtain ⟨k, rfl, hk, rfl, rfl⟩ := hrel
    have hml := many_le (rs.take k) o
    have hmk : (rs.take k).length ≤ k := List.length_take_le _ _
    by_cases hkn : k < N
    · obtain ⟨x, hx⟩ : ∃ x, rs[k]? = some x := ⟨_, List.getElem?_eq_getElem (by omega)⟩
      have hs := many_step rs k x o hx
      obtain ⟨a, b, c⟩ := HR.out.2 k x hx
      have c0 := (HT.out.cell (k * 3)).trans a
      have z1 : (0 : Int) ≤ (k : Int) := by omega
      have z2 : (k : Int) < (N : Int) := by omega
      obtain ⟨s0, hs0⟩ : ∃ s0, many (rs.take k) o = s0 := ⟨_, rfl⟩
      rw [hs0] at hs hml
      rw [hs0]
      have HS := Lib.hid hs
      clear hs hs0 a b c hx
      by_cases hd1 : x.own = o
      · by_cases hd2 : 0 < o
        · have hb : (x.own == o) = true := by rw [beq_iff_eq]; exact hd1
          go_wp2_with fail
          go_roundw
          case rel => exact ⟨k + 1, by go_num, by omega, by rw [HS.out, if_pos ⟨hd1, hd2⟩], by trivial⟩
          case measure => simp [intOf]; omega
        · have hb : (x.own == o) = true := by rw [beq_iff_eq]; exact hd1
          go_wp2_with fail
          go_roundw
          case rel => exact ⟨k + 1, by go_num, by omega, by rw [HS.out, if_neg (fun e => hd2 e.2), Int.add_zero], by trivial⟩
          case measure => simp [intOf]; omega
      · have hb : (x.own == o) = false := by rw [beq_eq_false_iff_ne]; exact hd1
        go_wp2_with fail
        go_roundw
        case rel => exact ⟨k + 1, by go_num, by omega, by rw [HS.out, if_neg (fun e => hd1 e.1), Int.add_zero], by trivial⟩
        case measure => simp [intOf]; omega
    · have hkN : k = N := by omega
      have e1 : rs.take k = rs := List.take_of_length_le (by omega)
      rw [e1]
      clear hml hmk e1
      go_wp2_with fail
      go_returns
      exact ⟨rfl, rfl⟩

theorem rfree_ok (w : World) (h : RP w q lb N Q T lo hi rs) :
    Calls Try.prog 42 #[.pointer (some ⟨q, 0, none⟩)] w fun e w' => e = .returned (.int .i64 (cnt rs 0 : Nat)) ∧ w = w' := by
  have k0 := h.box.cell 0
  simp at k0
  obtain ⟨cs, htab, hrows⟩ := h.tab
  have hlen := h.len
  have hN := h.N64
  have HT := Lib.hid htab
  have HR := Lib.hid hrows
  clear h htab hrows
  go_enter Try.func42, Try.ntmps42
  go_wp2_with fail
  go_loopw [3, 4] (fun s v wr => ∃ k : Nat, v = .int .i64 k ∧ k ≤ N ∧ s = .int .i64 (cnt (rs.take k) 0 : Nat) ∧ w = wr) (fun _ v _ => N - (intOf v).toNat)
  case atStart => exact ⟨0, rfl, by omega, by simp [cnt], rfl⟩
  case round =>
    obtain ⟨k, rfl, hk, rfl, rfl⟩ := hrel
    have hml := cnt_le (rs.take k) 0
    have hmk : (rs.take k).length ≤ k := List.length_take_le _ _
    by_cases hkn : k < N
    · obtain ⟨x, hx⟩ : ∃ x, rs[k]? = some x := ⟨_, List.getElem?_eq_getElem (by omega)⟩
      have hs := cnt_step rs k x 0 hx
      obtain ⟨a, b, c⟩ := HR.out.2 k x hx
      have c0 := (HT.out.cell (k * 3)).trans a
      have z1 : (0 : Int) ≤ (k : Int) := by omega
      have z2 : (k : Int) < (N : Int) := by omega
      obtain ⟨s0, hs0⟩ : ∃ s0, cnt (rs.take k) 0 = s0 := ⟨_, rfl⟩
      rw [hs0] at hs hml
      rw [hs0]
      have HS := Lib.hid hs
      clear hs hs0 a b c hx
      by_cases hd1 : x.own = 0
      · have hb : (x.own == 0) = true := by rw [beq_iff_eq]; exact hd1
        go_wp2_with fail
        go_roundw
        case rel => exact ⟨k + 1, by go_num, by omega, by rw [HS.out, if_pos hd1]; rfl, by trivial⟩
        case measure => simp [intOf]; omega
      · have hb : (x.own == 0) = false := by rw [beq_eq_false_iff_ne]; exact hd1
        go_wp2_with fail
        go_roundw
        case rel => exact ⟨k + 1, by go_num, by omega, by rw [HS.out, if_neg hd1, Nat.add_zero], by trivial⟩
        case measure => simp [intOf]; omega
    · have hkN : k = N := by omega
      have e1 : rs.take k = rs := List.take_of_length_le (by omega)
      rw [e1]
      clear hml hmk e1
      go_wp2_with fail
      go_returns
      exact ⟨rfl, rfl⟩

theorem rref_ok (n o : Int) (w : World) (h : RP w q lb N Q T lo hi rs) :
    Calls Try.prog 46 #[.pointer (some ⟨q, 0, none⟩), .int .i64 n, .int .i64 o] w fun e w' => e = .returned (.int .i64 (why rs n o)) ∧ w = w' := by
  have k0 := h.box.cell 0
  simp at k0
  obtain ⟨cs, htab, hrows⟩ := h.tab
  have hlen := h.len
  have hN := h.N64
  have HT := Lib.hid htab
  have HR := Lib.hid hrows
  clear h htab hrows
  by_cases h1 : n < 0
  · have hw : why rs n o = 18 := by unfold why at0; simp [show ¬ (0 : Int) ≤ n by omega]
    rw [hw]
    go_enter Try.func46, Try.ntmps46
    go_wp2_with fail
    go_returns
    exact ⟨rfl, rfl⟩
  · obtain ⟨m, rfl⟩ := Int.eq_ofNat_of_zero_le (show (0 : Int) ≤ n by omega)
    by_cases h2 : m < N
    · obtain ⟨x, hx⟩ : ∃ x, rs[m]? = some x := ⟨_, List.getElem?_eq_getElem (by omega)⟩
      obtain ⟨a, b, c⟩ := HR.out.2 m x hx
      have c0 := (HT.out.cell (m * 3)).trans a
      have z1 : (0 : Int) ≤ (m : Int) := by omega
      have z2 : (m : Int) < (N : Int) := by omega
      have hw : why rs m o = if x.own = 0 then 18 else if x.own = o then 0 else 19 := by
        unfold why
        rw [at0_get Fr.own hx]
      rw [hw]
      clear a b c hx hw
      by_cases hd1 : x.own = 0
      · have hb : (x.own == 0) = true := by rw [beq_iff_eq]; exact hd1
        rw [if_pos hd1]
        go_enter Try.func46, Try.ntmps46
        go_wp2_with fail
        go_returns
        exact ⟨rfl, rfl⟩
      · have hb : (x.own == 0) = false := by rw [beq_eq_false_iff_ne]; exact hd1
        rw [if_neg hd1]
        by_cases hd2 : x.own = o
        · rw [if_pos hd2]
          subst hd2
          go_enter Try.func46, Try.ntmps46
          go_wp2_with fail
          go_returns
          exact ⟨rfl, rfl⟩
        · rw [if_neg hd2]
          have hb2 : (x.own == o) = false := by rw [beq_eq_false_iff_ne]; exact hd2
          go_enter Try.func46, Try.ntmps46
          go_wp2_with fail
          go_returns
          exact ⟨rfl, rfl⟩
    · have hw : why rs m o = 18 := by
        unfold why at0
        rw [if_pos (show (0 : Int) ≤ (m : Int) by omega), List.getElem?_eq_none (by simp; omega)]
        rfl
      rw [hw]
      have z2 : ¬ (m : Int) < (N : Int) := by omega
      go_enter Try.func46, Try.ntmps46
      go_wp2_with fail
      go_returns
      exact ⟨rfl, rfl⟩
end
end Go.Proofs.Ytjfbanemjceimaa

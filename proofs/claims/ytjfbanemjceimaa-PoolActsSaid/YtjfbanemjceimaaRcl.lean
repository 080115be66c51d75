/- Reclaim. -/
import Derived.Test.YtjfbanemjceimaaMem
namespace Go.Proofs.Ytjfbanemjceimaa
open Go.RowKit Go.Maps
set_option linter.unusedVariables false
set_option linter.unusedSimpArgs false
set_option linter.unnecessarySimpa false

/-- A frame behind its owner's end. -/
def rc (o : Int) (x : Fr) : Fr := if x.own = o ∧ 0 < o then ⟨0, 0, x.mem⟩ else x

def recl (fs : List Fr) (o : Int) : List Fr := fs.map (rc o)

/-- How many frames an owner has; 0 for none. -/
def many (fs : List Fr) (o : Int) : Int := if 0 < o then (cnt fs o : Int) else 0

theorem part_at {α : Type} (g : α → α) (l : List α) (k : Nat) : ((l.take k).map g ++ l.drop k)[k]? = l[k]? := by
  rcases Nat.lt_or_ge k l.length with h | h
  · rw [List.getElem?_append_right (by simp; omega)]
    simp [show min k l.length = k by omega]
  · rw [List.getElem?_eq_none h, List.getElem?_eq_none (by simp; omega)]

theorem part_step {α : Type} (g : α → α) (l : List α) (k : Nat) (x : α) (h : l[k]? = some x) : ((l.take k).map g ++ l.drop k).set k (g x) = (l.take (k + 1)).map g ++ l.drop (k + 1) := by
  obtain ⟨hk, rfl⟩ := List.getElem?_eq_some_iff.1 h
  rw [List.drop_eq_getElem_cons hk, List.set_append_right _ _ (by simp; omega), List.take_succ_eq_append_getElem hk, List.length_map, List.length_take, Nat.min_eq_left (by omega), Nat.sub_self, List.set_cons_zero, List.map_append, List.append_assoc]
  rfl

theorem many_step (fs : List Fr) (k : Nat) (x : Fr) (o : Int) (h : fs[k]? = some x) : many (fs.take (k + 1)) o = many (fs.take k) o + if x.own = o ∧ 0 < o then 1 else 0 := by
  obtain ⟨hk, rfl⟩ := List.getElem?_eq_some_iff.1 h
  unfold many cnt
  rw [List.take_succ_eq_append_getElem hk, List.countP_append]
  by_cases h0 : 0 < o <;> by_cases h1 : fs[k].own = o <;> simp [h0, h1]

theorem rc_no {o : Int} {x : Fr} (h : ¬ (x.own = o ∧ 0 < o)) : rc o x = x := by unfold rc; rw [if_neg h]

section
variable {p N Q T lo hi : Nat} {fs : List Fr}

theorem many_le (fs : List Fr) (o : Int) : 0 ≤ many fs o ∧ many fs o ≤ fs.length := by
  have := cnt_le fs o
  unfold many
  split <;> omega

set_option maxHeartbeats 2000000 in
theorem pool_recl (o : Int) (w : World) (h : Pool w p N Q T lo hi fs) (hT : T + 64 ≤ 900000) :
    Calls Try.prog 9 #[.pointer (some ⟨p, 0, none⟩), .int .i64 o] w fun e w' => e = .returned (.tuple #[.int .i64 (many fs o), .int .i64 0]) ∧ Only (fun k => lo ≤ k ∧ k < hi) w w' ∧ Pool w' p N Q (T + 64) lo hi (recl fs o) := by
  obtain ⟨fb, ib, cap, mb, fbs, l, f, h⟩ := h
  have k0 := h.idle.box.cell 0
  simp at k0
  have hn1 := h.n1
  have hN64 := h.N64
  have HL := Lib.hid h.books.len
  have H := Lib.hid h
  have HN1 := Lib.hid hn1
  clear h hn1
  go_enter Try.func9, Try.ntmps9
  go_wp2_with fail
  refine (pnone_ok p _ _ _ Q _ H.out.idle.box H.out.Q1).mono ?_
  rintro e w' ⟨rfl, rfl⟩
  go_wp2_with fail
  go_loopw [4, 15] (fun s v wr => ∃ k : Nat, v = .int .i64 k ∧ k ≤ N ∧ s = .int .i64 (many (fs.take k) o) ∧ Only (fun k => lo ≤ k ∧ k < hi) w wr ∧ ∃ l f, PL wr p fb ib cap mb (T + k) N Q lo hi fbs ((fs.take k).map (rc o) ++ fs.drop k) l f) (fun _ v _ => N - (intOf v).toNat)
  case atStart => exact ⟨0, rfl, by omega, by simp [many, cnt], Only.refl _ _, l, f, by simpa using H.out⟩
  case round =>
    obtain ⟨k, rfl, hk, rfl, ho, l2, f2, h2⟩ := hrel
    have HO := Lib.hid ho
    have hml := many_le (fs.take k) o
    have hmk : (fs.take k).length ≤ k := List.length_take_le _ _
    by_cases hkn : k < N
    · obtain ⟨x, hx⟩ : ∃ x, fs[k]? = some x := ⟨_, List.getElem?_eq_getElem (by have := HL.out; omega)⟩
      obtain ⟨b, hb⟩ : ∃ b, fbs[k]? = some b := ⟨_, List.getElem?_eq_getElem (by have := HN1.out; omega)⟩
      have hx2 := (part_at (rc o) fs k).trans hx
      have hbx := h2.fr k b x hb hx2
      have c0 := hbx.cell 0
      simp at c0
      have hc : wr.cell? ⟨fb, k, none⟩ = some (.pointer (some ⟨b, 0, none⟩)) := (h2.tab.cell k).trans (ptrs_get hb)
      have HS := Lib.hid (many_step fs k x o hx)
      have HP := Lib.hid (part_step (rc o) fs k x hx)
      have H2 := Lib.hid h2
      have HB := Lib.hid hb
      have HX := Lib.hid hx2
      by_cases hd : x.own = o ∧ 0 < o
      · obtain ⟨hd1, hd2⟩ := hd
        subst hd1
        have hr : rc x.own x = ⟨0, 0, x.mem⟩ := by unfold rc; rw [if_pos ⟨rfl, hd2⟩]
        have HR := Lib.hid hr
        clear h2 hb hx hx2 hbx hr ho
        go_wp2_with fail
        refine (frees_ok k b x (.int .i64 x.hand) wr wr H2.out HB.out HX.out (by omega) (Only.refl (fun q => q = b) _) (H2.out.fr k b x HB.out HX.out) (by omega)).mono ?_
        rintro e w3 ⟨⟨v3, rfl⟩, ho3, l3, h3⟩
        have HO3 := Lib.hid ho3
        have H3 := Lib.hid h3
        clear ho3 h3
        go_wp2_with fail
        go_roundw
        case rel =>
          refine ⟨k + 1, by go_num, by omega, ?_, HO.out.trans (HO3.out.mono (fun q _ e => H2.out.few HB.out q e)), l3, setAt f2 x.own (f2 x.own + -1), ?_⟩
          · rw [HS.out, if_pos ⟨by trivial, hd2⟩]
          · rw [← HP.out, HR.out]; exact H3.out
        case measure => simp [intOf]; omega
      · have hr := rc_no hd
        have HR := Lib.hid hr
        have HD := Lib.hid hd
        have hset : ((fs.take k).map (rc o) ++ fs.drop k).set k x = (fs.take k).map (rc o) ++ fs.drop k := by
          obtain ⟨hq, hq2⟩ := List.getElem?_eq_some_iff.1 hx2
          conv => rhs; rw [← List.set_getElem_self hq]
          rw [hq2]
        have hP2 : PL wr p fb ib cap mb (T + (k + 1)) N Q lo hi fbs ((fs.take (k + 1)).map (rc o) ++ fs.drop (k + 1)) l2 f2 := by
          rw [← HP.out, hr, hset]
          obtain ⟨q, D, a1, a2, a3⟩ := h2.map
          exact { h2 with map := ⟨q, D, by omega, a2, a3⟩, T1 := by omega, books := h2.books.mono (by omega) }
        have HP2 := Lib.hid hP2
        by_cases hd1 : x.own = o
        · have hd2 : ¬ 0 < o := fun q => hd ⟨hd1, q⟩
          subst hd1
          clear h2 hb hx hx2 hbx hr ho hd hset hP2
          go_wp2_with fail
          go_roundw
          case rel =>
            refine ⟨k + 1, by go_num, by omega, ?_, HO.out, l2, f2, HP2.out⟩
            rw [HS.out, if_neg HD.out]; simp
          case measure => simp [intOf]; omega
        · have hnb : (x.own == o) = false := by rw [beq_eq_false_iff_ne]; exact hd1
          clear h2 hb hx hx2 hbx hr ho hd hset hP2 hd1
          go_wp2_with fail
          go_roundw
          case rel =>
            refine ⟨k + 1, by go_num, by omega, ?_, HO.out, l2, f2, HP2.out⟩
            rw [HS.out, if_neg HD.out]; simp
          case measure => simp [intOf]; omega
    · have hkN : k = N := by omega
      subst hkN
      have H2 := Lib.hid h2
      clear h2 ho
      go_wp2_with fail
      go_returns
      have hl := HL.out
      have e1 : fs.take k = fs := List.take_of_length_le (by omega)
      have e2 : fs.drop k = [] := List.drop_of_length_le (by omega)
      have h2 := H2.out
      rw [e1, e2, List.append_nil] at h2
      refine ⟨by (rw [e1]) <;> rfl, HO.out, (show Pool wr p k Q (T + k) lo hi (recl fs o) from ⟨fb, ib, cap, mb, fbs, l2, f2, h2⟩).mono (by omega) hT⟩

theorem reclaims_ok (o x : Int) (w : World) (h : Pool w p N Q T lo hi fs) (hT : T + 64 ≤ 900000) :
    Calls Try.prog 22 #[.pointer (some ⟨p, 0, none⟩), .int .i64 o, .int .i64 x] w fun e w' => e = .returned (.bool (many fs o == x)) ∧ Only (fun k => lo ≤ k ∧ k < hi) w w' ∧ Pool w' p N Q (T + 64) lo hi (recl fs o) := by
  have hc := pool_recl o w h hT
  obtain ⟨a, ha⟩ : ∃ a, many fs o = a := ⟨_, rfl⟩
  rw [ha] at hc ⊢
  have HC := Lib.hid hc
  clear hc ha h
  go_enter Try.func22, Try.ntmps22
  go_wp2_with fail
  refine HC.out.mono ?_
  rintro e w1 ⟨rfl, ho, hp⟩
  have HO := Lib.hid ho
  have HP := Lib.hid hp
  clear ho hp
  cases h1 : (a == x)
  · go_wp2_with fail
    go_returns
    exact ⟨by simp [h1], HO.out, HP.out⟩
  · go_wp2_with fail
    go_returns
    exact ⟨by simp [h1], HO.out, HP.out⟩
end
end Go.Proofs.Ytjfbanemjceimaa

/- The document's pool: Look. -/
import Derived.Test.YtjfbanemjceimaaRefC
namespace Go.Proofs.Ytjfbanemjceimaa
open Go.RowKit Go.Maps
set_option linter.unusedVariables false
set_option linter.unusedSimpArgs false
set_option linter.unnecessarySimpa false

section
variable {w w2 : World} {q lb N Q T lo hi : Nat} {rs : List Fr}

set_option maxHeartbeats 1000000 in
theorem rlook_ok (n k : Nat) (x : Fr) (w : World) (h : RP w q lb N Q T lo hi rs) (hx : rs[n]? = some x) (hbt : Bts (cont x)) (hk : k ≤ 152064) :
    Calls Try.prog 40 #[.pointer (some ⟨q, 0, none⟩), .int .i64 n, .int .i64 k] w fun e w' => ∃ m B c, e = .returned (.tuple #[.slice B k c, .int .i64 0]) ∧ Only (fun k => k = lb) w w' ∧ Lies w rs n m ∧ m < w'.heap.size ∧
      RP w' q lb N Q T lo hi (maded rs n m) ∧ w'.ownsRow w.heap.size 5 1 (.slice B k c) k ((pre (cont x) k).map (Value.int .u8)) := by
  obtain ⟨i5, hi5, h50, h51, h52⟩ := info_parts (show (Try.prog.info? 5).map (fun i => (i.zero, i.size, i.bytes)) = some (some (.int .u8 0), 1, 1) by kernel_rfl)
  have hlen := h.len
  have k0 := h.box.cell 0
  simp at k0
  have hn : n < N := by have := (List.getElem?_eq_some_iff.1 hx).1; omega
  have z1 : (0 : Int) ≤ (n : Int) := by omega
  have z2 : (n : Int) < (N : Int) := by omega
  have hlb : lb < w.heap.size := by obtain ⟨cs, ht, _⟩ := h.tab; exact ht.lt
  have hA : Kept w (w.alloc (.cells #[] 5)) := (Only.refl (fun _ => False) w).alloc _
  have HM := Lib.hid (rmade_ok n x (w.alloc (.cells #[] 5)) (h.kept hA) hx)
  have HOWN := Lib.hid (World.ownsRow_made (base := w.heap.size) (e := 5) (size := 1) w #[] 0 (Nat.le_refl _) (by unfold maxLen; omega) rfl)
  have HH := Lib.hid h
  have HX := Lib.hid hx
  have HBT := Lib.hid hbt
  have HA := Lib.hid hA
  clear h hx hbt hA
  go_enter Try.func40, Try.ntmps40
  go_wp2_with fail
  refine HM.out.mono ?_
  rintro e w1 ⟨m, rfl, ho, hl, hlt, hp⟩
  have hown1 := own_only HOWN.out ho (fun k hk e => by omega)
  have hxm := maded_get (m := m) HX.out
  obtain ⟨a1, a2, a3⟩ := hp.mem n _ m _ hxm rfl
  have hT := Txt.of_blk (n := k) a1 HBT.out hk
  have hnews : ∀ j u, ((pre (cont x) k).map (Value.int .u8))[j]? = some u → w1.cell? ((⟨m, 0, none⟩ : Addr).add j) = some u := by
    intro j u hu
    have hj : j < (pre (cont x) k).length := by have := (List.getElem?_eq_some_iff.1 hu).1; simpa using this
    obtain ⟨g, o, e, hc⟩ := hT (by intro e; rw [e] at hj; simp at hj)
    cases e
    rw [addr_off, hc j hj]
    simp [List.getElem?_eq_getElem hj] at hu
    simp [List.getD, List.getElem?_eq_getElem hj, hu]
  have HO := Lib.hid ho
  have HL := Lib.hid hl
  have HP := Lib.hid hp
  have HLT := Lib.hid hlt
  have HOW1 := Lib.hid hown1
  have HNEW := Lib.hid hnews
  have hsz : w.heap.size ≤ w1.heap.size := by have := ho.size; simp at this; omega
  clear ho hl hp hlt hown1 hxm a1 a2 a3 hT hnews
  go_wp2_with (at_builtin; (refine wpList_append_own _ rfl _ _ 35 rfl w.heap.size 5 i5 (.int .u8 0) 1 1 Try.underlying35 hi5 h50 h51 h52 rfl (by decide) _ _ _ rfl HOW1.out ⟨m, 0, none⟩ k 152064 ((pre (cont x) k).map (Value.int .u8)) rfl (by simp [pre_length]) HNEW.out (by intro u hu; simp at hu; obtain ⟨a, _, rfl⟩ := hu; rfl) (by unfold maxLen; omega) (by omega) (by first | exact hsz | simp | omega) ?_); intro v5 w5 hown5 hgrow5 _; have HO5 := Lib.hid hown5; have HG5 := Lib.hid (show w1.grownBy w5 (some w.heap.size) from hgrow5); clear hown5 hgrow5)
  go_returns
  have h := HO5.out
  rw [Nat.zero_add, List.nil_append] at h
  obtain ⟨B, c', rfl⟩ : ∃ B c', v5 = .slice B k c' := by
    rcases h.2 with ⟨h1, h2⟩ | ⟨g, cap, cur, h1, _⟩
    · exact ⟨none, 0, by rw [h1, h2]⟩
    · exact ⟨_, _, h1⟩
  have hmne : m ≠ w.heap.size := by
    rcases HL.out x HX.out with ⟨_, h1⟩ | ⟨cs, h1⟩
    · simp at h1; omega
    · have := (HH.out.mem n x m cs HX.out h1).1.lt; omega
  have hG : Only (fun k => k = w.heap.size) w1 w5 := (Only.refl (fun k => k = w.heap.size) w1).grown HG5.out (fun k hk _ => by injection hk with hk; exact hk.symm)
  refine ⟨m, B, c', rfl, ((HA.out.mono (fun _ _ f => f.elim)).trans HO.out).grown HG5.out (fun k hk hlt => by injection hk with hk; omega), ?_, Nat.lt_of_lt_of_le HLT.out hG.size, ?_, h⟩
  · intro y hy
    rcases HL.out y hy with ⟨h1, h2⟩ | ⟨cs, h1⟩
    · refine .inl ⟨h1, ?_⟩
      simp at h2
      omega
    · exact .inr ⟨cs, h1⟩
  · have hhi := HH.out.hiw
    refine HP.out.keep hG (fun q h1 h2 e => by omega) (fun i y m2 cs hy he e => ?_)
    unfold maded at hy
    rw [HX.out] at hy
    rcases set_get HX.out hy with ⟨rfl, rfl⟩ | ⟨_, hy⟩
    · simp at he
      exact hmne (he.1.trans e)
    · have := (HH.out.mem i y m2 cs hy he).1.lt
      omega
end
end Go.Proofs.Ytjfbanemjceimaa

/- The law OutboxOrder: the walk. -/
import Derived.Deep.Cut
import Derived.Deep.CutRange
import Derived.Deep.CutBlock
import Derived.Deep.DeepCutAuto
import Derived.Deep.AppendLies
import Derived.Deep.RegionHeld3
import Derived.Deep.DrawnRows
import Derived.Laws.AppendOwnNone
import Derived.Test.YtoohkcboidamnaaScr
import Derived.Test.YtoohkcboidamnaaObK
import Derived.Test.YtoohkcboidamnaaObR
namespace Go.Proofs.Ytoohkcboidamnaa
attribute [local go_sem ↓] Go.wp_at_zero Go.wp_at_succ
open Go.RowKit
set_option linter.unusedVariables false
set_option linter.unusedSimpArgs false
set_option linter.unnecessarySimpa false

/-- Two lists that lie apart. -/
def Apart (v u : Value) : Prop := v.ownBlock = none ∨ v.ownBlock ≠ u.ownBlock

theorem Apart.symm {v u : Value} (h : Apart v u) : Apart u v := by
  unfold Apart at *
  cases hv : v.ownBlock with
  | none => cases hu : u.ownBlock with
    | none => exact .inl rfl
    | some b => right; simp
  | some a => rw [hv] at h; rcases h with h | h
              · cases h
              · exact .inr (fun e => h e.symm)

/-- A row of one's own stays where only blocks ahead of it turn. -/
theorem own_turn {w w' : World} {base : Nat} {e size : Nat} {v : Value} {n : Nat} {xs : List Value} {S : Nat → Prop} (h : w.ownsRow base e size v n xs) (ho : Only S w w') (hS : ∀ k, base ≤ k → ¬ S k) : w'.ownsRow base e size v n xs := by
  refine ⟨h.1, ?_⟩
  rcases h.2 with h2 | ⟨g, cap, cur, h1, h2, h3, h4⟩
  · exact .inl h2
  · exact .inr ⟨g, cap, cur, h1, h2, (ho.block g (by rcases Nat.lt_or_ge g w.heap.size with hl | hl; · exact hl
                                                     · rw [Array.getElem?_eq_none hl] at h3; cases h3) (hS g h2)).trans h3, h4⟩

/-- The law's state between two calls. -/
structure OrdAt (w0 w : World) (b r N lo : Nat) (vi vo : Value) (ins : List It) (g : Nat) : Prop where
  ob : ∃ ring, OB w b r N ins.length g (ins.drop g) ring
  le : g ≤ ins.length
  vi_ : w.ownsRow lo 30 4 vi ins.length (ins.flatMap It.cells)
  vo_ : w.ownsRow lo 30 4 vo g ((ins.take g).flatMap It.cells)
  ap : Apart vi vo
  hb : b < lo
  hr : r < lo
  hlo : lo ≤ w.heap.size
  kept : Kept w0 w
  lo0 : w0.heap.size ≤ lo
  b0 : w0.heap.size ≤ b
  r0 : w0.heap.size ≤ r

theorem OrdAt.keep {w0 w w' : World} {b r N lo : Nat} {vi vo : Value} {ins : List It} {g : Nat} (h : OrdAt w0 w b r N lo vi vo ins g) (ho : Kept w w') : OrdAt w0 w' b r N lo vi vo ins g := by
  obtain ⟨ring, hO⟩ := h.ob
  exact ⟨⟨ring, hO.keep ho (fun f => f) (fun f => f)⟩, h.le, own_keep h.vi_ ho, own_keep h.vo_ ho, h.ap, h.hb, h.hr, Nat.le_trans h.hlo ho.size, h.kept.trans ho, h.lo0, h.b0, h.r0⟩

theorem OB.kept {w w' : World} {b r m c g : Nat} {l : List It} {ring : Array Value} (h : OB w b r m c g l ring) (ho : Kept w w') : OB w' b r m c g l ring := h.keep ho (fun f => f) (fun f => f)

/-- An item was pushed, and laid down behind the ones that went in. -/
theorem OrdAt.push {w0 w w1 w2 : World} {b r N lo : Nat} {vi vo : Value} {ins : List It} {g : Nat} (h : OrdAt w0 w b r N lo vi vo ins g) {x : It} {ring : Array Value} {v' : Value} (ho1 : OB w1 b r N (ins.length + 1) g (ins.drop g ++ [x]) ring) (hk1 : Only (fun k => k = b ∨ k = r) w w1)
    (hv : w2.ownsRow lo 30 4 v' (ins.length + 1) (ins.flatMap It.cells ++ x.cells)) (hg : w1.grownBy w2 vi.ownBlock) (hat : v'.ownBlock = vi.ownBlock ∨ v'.ownBlock = some w1.heap.size) : OrdAt w0 w2 b r N lo v' vo (ins ++ [x]) g := by
  have hb := h.hb
  have hr := h.hr
  have b0 := h.b0
  have r0 := h.r0
  have hlt : ∀ k, vi.ownBlock = some k → lo ≤ k := fun k hk => (h.vi_.lt k hk).1
  have hnb : ∀ q, q < lo → some q ≠ vi.ownBlock := fun q hq e => by have := hlt q e.symm; omega
  have hvo1 := own_turn h.vo_ hk1 (fun k hk hh => by omega)
  refine ⟨⟨ring, ?_⟩, by simp; have := h.le; omega, ?_, ?_, ?_, hb, hr, ?_, ?_, h.lo0, b0, r0⟩
  · rw [List.drop_append_of_le_length h.le]
    have e : (ins ++ [x]).length = ins.length + 1 := by simp
    rw [e]
    exact ⟨ho1.box.grown hg (hnb _ hb), ho1.row.grown hg (hnb _ hr), ho1.size, ho1.came, ho1.fits, ho1.lo, ho1.hi, ho1.at_⟩
  · simpa using hv
  · rw [List.take_append_of_le_length h.le]
    exact hvo1.kept hg (h.ap.symm.elim .inl .inr)
  · rcases hat with e | e
    · unfold Apart; rw [e]; exact h.ap
    · right
      rw [e]
      intro hh
      have := (hvo1.lt _ hh.symm).2
      omega
  · exact Nat.le_trans h.hlo (Nat.le_trans hk1.size hg.size)
  · exact (h.kept.trans' hk1 (fun q hq hh => by omega)).grown hg (fun k hk hl => by have := hlt k hk; have := h.lo0; omega)

/-- An item was popped, and laid down behind the ones that came out. -/
theorem OrdAt.pop {w0 w w1 w2 : World} {b r N lo : Nat} {vi vo : Value} {ins : List It} {g : Nat} (h : OrdAt w0 w b r N lo vi vo ins g) {x : It} {l : List It} {ring : Array Value} {v' : Value} (hx : ins.drop g = x :: l) (ho1 : OB w1 b r N ins.length (g + 1) l ring) (hk1 : Only (fun k => k = b) w w1)
    (hv : w2.ownsRow lo 30 4 v' (g + 1) ((ins.take g).flatMap It.cells ++ x.cells)) (hg : w1.grownBy w2 vo.ownBlock) (hat : v'.ownBlock = vo.ownBlock ∨ v'.ownBlock = some w1.heap.size) : OrdAt w0 w2 b r N lo vi v' ins (g + 1) := by
  have hb := h.hb
  have hr := h.hr
  have b0 := h.b0
  have hlt : ∀ k, vo.ownBlock = some k → lo ≤ k := fun k hk => (h.vo_.lt k hk).1
  have hnb : ∀ q, q < lo → some q ≠ vo.ownBlock := fun q hq e => by have := hlt q e.symm; omega
  have hvi1 := own_turn h.vi_ hk1 (fun k hk hh => by omega)
  have hgl : g < ins.length := by
    have := congrArg List.length hx
    simp at this
    omega
  have hgx : ins[g]? = some x := by
    have : (ins.drop g)[0]? = some x := by rw [hx]; rfl
    simpa using this
  refine ⟨⟨ring, ?_⟩, by omega, ?_, ?_, ?_, hb, hr, ?_, ?_, h.lo0, b0, h.r0⟩
  · have e : ins.drop (g + 1) = l := by rw [← List.drop_drop, hx]; rfl
    rw [e]
    exact ⟨ho1.box.grown hg (hnb _ hb), ho1.row.grown hg (hnb _ hr), ho1.size, ho1.came, ho1.fits, ho1.lo, ho1.hi, ho1.at_⟩
  · exact hvi1.kept hg (h.ap.elim .inl .inr)
  · rw [List.take_add_one, hgx]
    simpa using hv
  · apply Apart.symm
    rcases hat with e | e
    · unfold Apart; rw [e]; exact h.ap.symm
    · right
      rw [e]
      intro hh
      have := (hvi1.lt _ hh.symm).2
      omega
  · exact Nat.le_trans h.hlo (Nat.le_trans hk1.size hg.size)
  · exact (h.kept.trans' hk1 (fun q hq hh => by omega)).grown hg (fun k hk hl => by have := hlt k hk; have := h.lo0; omega)

/-- All were taken, and laid down behind the ones that came out. -/
theorem OrdAt.clear {w0 w w1 w2 : World} {b r N lo : Nat} {vi vo : Value} {ins : List It} {g : Nat} (h : OrdAt w0 w b r N lo vi vo ins g) {ring : Array Value} {v' : Value} (ho1 : OB w1 b r N ins.length ins.length [] ring) (hk1 : Only (fun k => k = b) w w1)
    (hv : w2.ownsRow lo 30 4 v' ins.length ((ins.take g).flatMap It.cells ++ (ins.drop g).flatMap It.cells)) (hg : w1.grownBy w2 vo.ownBlock) (hat : v'.ownBlock = vo.ownBlock ∨ v'.ownBlock = some w1.heap.size) : OrdAt w0 w2 b r N lo vi v' ins ins.length := by
  have hb := h.hb
  have hr := h.hr
  have b0 := h.b0
  have hlt : ∀ k, vo.ownBlock = some k → lo ≤ k := fun k hk => (h.vo_.lt k hk).1
  have hnb : ∀ q, q < lo → some q ≠ vo.ownBlock := fun q hq e => by have := hlt q e.symm; omega
  have hvi1 := own_turn h.vi_ hk1 (fun k hk hh => by omega)
  refine ⟨⟨ring, ?_⟩, by omega, ?_, ?_, ?_, hb, hr, ?_, ?_, h.lo0, b0, h.r0⟩
  · rw [List.drop_length]
    exact ⟨ho1.box.grown hg (hnb _ hb), ho1.row.grown hg (hnb _ hr), ho1.size, ho1.came, ho1.fits, ho1.lo, ho1.hi, ho1.at_⟩
  · exact hvi1.kept hg (h.ap.elim .inl .inr)
  · rw [List.take_length]
    rw [← List.flatMap_append, List.take_append_drop] at hv
    exact hv
  · apply Apart.symm
    rcases hat with e | e
    · unfold Apart; rw [e]; exact h.ap.symm
    · right
      rw [e]
      intro hh
      have := (hvi1.lt _ hh.symm).2
      omega
  · exact Nat.le_trans h.hlo (Nat.le_trans hk1.size hg.size)
  · exact (h.kept.trans' hk1 (fun q hq hh => by omega)).grown hg (fun k hk hl => by have := hlt k hk; have := h.lo0; omega)

theorem cells_four_at (w : World) (x : It) (t : TypeId) (B : Nat) (hB : w.heap.size = B) : ∀ j u, x.cells[j]? = some u → (w.alloc (.cells #[.int .i64 x.a, .int .i64 x.b, .int .i64 x.c, .int .i64 x.d] t)).cell? ((⟨B, 0, none⟩ : Addr).add j) = some u := by
  subst hB
  exact cells_four_new w x t

theorem room_full (L R N : Nat) (h : L + R = N) (b : N ≤ 1000) : (IntKind.i64.wrap ((L : Int) + (R : Int)) != (N : Int)) = false := by
  have e : IntKind.i64.wrap ((L : Int) + (R : Int)) = (N : Int) := by
    rw [show (L : Int) + (R : Int) = (N : Int) by omega]
    rw [IntKind.wrap_i64]; omega
  rw [e]
  simp

theorem flat_oneCell (l : List It) : ∀ u ∈ l.flatMap It.cells, u.oneCell' = true := by
  intro u hu
  obtain ⟨x, _, hx⟩ := List.mem_flatMap.1 hu
  exact four_oneCell x u hx

/-- What is read from a row of one's own: the first ones, and the others. -/
theorem own_halves {w : World} {lo g L c : Nat} {A : Option Addr} {ps rs : List It} (h : w.ownsRow lo 30 4 (.slice A (g + L) c) (g + L) ((ps ++ rs).flatMap It.cells)) (hp : ps.length = g) (hr : rs.length = L) :
    (A = none ∧ g = 0 ∧ L = 0 ∧ c = 0) ∨ ∃ q, A = some ⟨q, 0, none⟩ ∧ g + L ≤ c ∧ Sl w (some ⟨q, 0, none⟩) ps ∧ Sl w (some ⟨q, g * 4, none⟩) rs := by
  have hS := Sl.of_own h
  rcases h.2 with ⟨hv, hn⟩ | ⟨q, cap, cur, hv, hb, hg, hnc, hc1, hcs, ht⟩
  · simp only [Value.slice.injEq] at hv
    exact .inl ⟨hv.1, by omega, by omega, hv.2.2⟩
  · simp only [Value.slice.injEq] at hv
    obtain ⟨rfl, _, rfl⟩ := hv
    refine .inr ⟨q, rfl, hnc, ?_, ?_⟩
    · intro hne
      obtain ⟨q', off', e, hc⟩ := hS (by intro e; simp at e; exact hne e.1)
      simp only [Option.some.injEq, Addr.mk.injEq] at e
      obtain ⟨rfl, rfl, _⟩ := e
      exact ⟨q, 0, rfl, fun i x hx => hc i x (by rw [List.getElem?_append_left (by have := (List.getElem?_eq_some_iff.1 hx).1; exact this)]; exact hx)⟩
    · intro hne
      obtain ⟨q', off', e, hc⟩ := hS (by intro e; simp at e; exact hne e.2)
      simp only [Option.some.injEq, Addr.mk.injEq] at e
      obtain ⟨rfl, rfl, _⟩ := e
      refine ⟨q, g * 4, rfl, fun i x hx => ?_⟩
      have := hc (g + i) x (by rw [← hp, List.getElem?_append_right (by omega)]; simpa using hx)
      simpa [Nat.add_mul, Nat.add_assoc] using this

set_option maxHeartbeats 4000000 in
set_option maxRecDepth 100000 in
theorem order_calls (most : Int) (A : Option Addr) (acts : List Ac) (n cap : Nat) (w : World) (h1 : -9223372036854775808 ≤ most) (h1' : most ≤ 9223372036854775807) (hn : acts.length = n) (hm : n ≤ 9223372036854775807) (ha : Acts w A acts)
    (hw : ∀ a ∈ acts, -9223372036854775808 ≤ a.kind ∧ a.kind ≤ 9223372036854775807) :
    Calls Try.prog 7 #[.int .i64 most, .slice A n cap] w fun e w' => e = .returned (.bool true) ∧ Kept w w' := by
  obtain ⟨i0, hi, hz0, hz1, hz2⟩ := info_parts Try.info30
  have e1 := Int.emod_nonneg most (show (12 : Int) ≠ 0 by omega)
  have e2 := Int.emod_lt_of_pos most (show (0 : Int) < 12 by omega)
  obtain ⟨M, hM⟩ := Int.eq_ofNat_of_zero_le e1
  have bM : M < 12 := by omega
  have HM := Lib.hid hM
  have HN := Lib.hid hn
  have HA := Lib.hid ha
  have HW := Lib.hid hw
  clear e1 e2 hM hn ha hw
  go_enter Try.func7, Try.ntmps7
  go_wp2_with fail
  refine (known_calls _).mono ?_
  rintro e w1 ⟨rfl, hk1⟩
  have HK1 := Lib.hid hk1
  clear hk1
  go_wp2_with fail
  refine (pick_nat most 12 M _ (by omega) (by omega) h1 h1' HM.out).mono ?_
  rintro e w2 ⟨rfl, rfl⟩
  go_wp2_with fail
  obtain ⟨N, hN⟩ : ∃ N : Nat, 1 + (M : Int) = N := ⟨M + 1, by omega⟩
  rw [hN]
  have bN : 1 ≤ N := by omega
  have bN2 : N ≤ 12 := by omega
  have HNM := Lib.hid hN
  clear hN
  refine (new_at N _ _ rfl (by omega) (by omega)).mono ?_
  rintro e w2 ⟨b, r, ring, rfl, ho2, hb, hr, hk2⟩
  have HO2 := Lib.hid ho2
  have lb := ho2.box.lt
  have lr := ho2.row.lt
  have K2 := Lib.hid (HK1.out.trans hk2)
  clear ho2 hk2
  by_cases hbig : 100 < n
  · go_wp2_with fail
    go_ret
    exact ⟨rfl, K2.out⟩
  · go_wp2_with fail
    have hsz1 := HK1.out.size
    have hst : OrdAt w w2 b r N w2.heap.size (.slice none 0 0) (.slice none 0 0) [] 0 := ⟨⟨ring, HO2.out⟩, by simp, World.ownsRow_nil _ _ _ _, World.ownsRow_nil _ _ _ _, .inl rfl, lb, lr, Nat.le_refl _, K2.out, K2.out.size, by omega, by omega⟩
    have HST := Lib.hid hst
    clear hst
    go_loopw [8, 9, 10] (fun vi vo v wr => ∃ (k g : Nat) (ins : List It), v = .int .i64 k ∧ k ≤ n ∧ ins.length ≤ k ∧ OrdAt w wr b r N w2.heap.size vi vo ins g) (fun _ _ v _ => n - (intOf v).toNat)
    case atStart => exact ⟨0, 0, [], rfl, by omega, by simp, HST.out⟩
    case round =>
      obtain ⟨k, g, ins, rfl, hk, hik, hst⟩ := hrel
      have H1 := Lib.hid hst
      clear hst
      by_cases hlt : k < n
      · obtain ⟨a, ha⟩ : ∃ a, acts[k]? = some a := ⟨_, List.getElem?_eq_getElem (by rw [HN.out]; exact hlt)⟩
        have hne : acts ≠ [] := by rintro rfl; simp at ha
        obtain ⟨lg, off, rfl, hlg, hcells⟩ := HA.out hne
        obtain ⟨a0, a1, a2, a3, a4⟩ := hcells k a ha
        replace a0 := kept_cell H1.out.kept a0
        replace a1 := kept_cell H1.out.kept a1
        replace a2 := kept_cell H1.out.kept a2
        replace a3 := kept_cell H1.out.kept a3
        replace a4 := kept_cell H1.out.kept a4
        have hw0 := HW.out a (List.mem_of_getElem? ha)
        obtain ⟨kd, x⟩ := a
        simp only [] at a0 a1 a2 a3 a4 hw0
        clear hcells ha hne
        have p0 := Int.emod_nonneg kd (show (6 : Int) ≠ 0 by omega)
        have p1 := Int.emod_lt_of_pos kd (show (0 : Int) < 6 by omega)
        obtain ⟨P, hP⟩ := Int.eq_ofNat_of_zero_le p0
        have bP : P < 6 := by omega
        have HP := Lib.hid hP
        clear hP p0 p1
        go_wp2_with fail
        refine (pick_nat kd 6 P _ (by omega) (by omega) hw0.1 hw0.2 HP.out).mono ?_
        rintro e w3 ⟨rfl, rfl⟩
        obtain ⟨A1, c1, rfl⟩ := ownsRow_form H1.out.vi_
        obtain ⟨A2, c2, rfl⟩ := ownsRow_form H1.out.vo_
        have hle := H1.out.le
        obtain ⟨rg, hO⟩ := H1.out.ob
        have hfit := hO.fits
        have hlenD : (ins.drop g).length = ins.length - g := by simp
        have HO := Lib.hid hO
        clear hO
        have bins : ins.length ≤ 100 := by omega
        go_upto_block 2 with (fail)
        go_cut [8, 9, 11, 12, 13, 14] (fun vi vo _ _ _ _ wx => ∃ (g : Nat) (ins : List It), ins.length ≤ k + 1 ∧ OrdAt w wx b r N w2.heap.size vi vo ins g)
        case first =>
          have hbN := H1.out.hb
          have hrN := H1.out.hr
          have b0 := H1.out.b0
          have r0 := H1.out.r0
          have hloN := H1.out.hlo
          by_cases hpush : P = 0 ∨ P = 1 ∨ P = 2
          · by_cases hroom : ins.length - g < N
            · have hwh : ((ins.length : Int) - (g : Int) == (N : Int)) = false := by rw [beq_eq_false_iff_ne]; omega
              rcases hpush with rfl | rfl | rfl
              all_goals
                go_wp2_with fail
                refine (push_ok b r N ins.length g (ins.drop g) rg x.a x.b x.c x.d _ HO.out (by omega) (by omega)).mono ?_
                rintro e w3 ⟨rfl, ho3, hk3⟩
                replace a1 := only_cell hk3 a1 (by show ¬ (lg = b ∨ lg = r); omega)
                replace a2 := only_cell hk3 a2 (by show ¬ (lg = b ∨ lg = r); omega)
                replace a3 := only_cell hk3 a3 (by show ¬ (lg = b ∨ lg = r); omega)
                replace a4 := only_cell hk3 a4 (by show ¬ (lg = b ∨ lg = r); omega)
                have HVI := Lib.hid (own_turn H1.out.vi_ hk3 (fun q hq hh => by omega))
                have hs3 := hk3.size
                have HO3 := Lib.hid ho3
                have HK3 := Lib.hid hk3
                clear ho3 hk3
                go_wp2_with (at_builtin; refine wpList_append_lies _ rfl _ _ 42 rfl w2.heap.size 30 i0 (.agg #[.int .i64 0, .int .i64 0, .int .i64 0, .int .i64 0]) 4 32 Try.underlying42 hi hz0 hz1 hz2 rfl (by decide) _ _ _ rfl (HVI.out.alloc _) ⟨w3.heap.size, 0, none⟩ 1 1 x.cells rfl rfl (cells_four_new _ x _) (four_oneCell x) (by decide) (by unfold maxLen; omega) (by omega) (by simp; omega) _ rfl ?_; intro g5 cp5 w5 hown5 hgrow5 hat5 hlt5)
                go_meet
                case rel =>
                  refine ⟨g, ins ++ [x], by simp; omega, H1.out.push (x := x) (ring := put4 rg (ins.length % N * 4) x.a x.b x.c x.d) (HO3.out.alloc _) (HK3.out.alloc _) hown5 hgrow5 ?_⟩
                  rcases hat5 with h | h
                  · exact .inl h.symm
                  · exact .inr (by rw [h]; rfl)
            · have hwh : ((ins.length : Int) - (g : Int) == (N : Int)) = true := by rw [beq_iff_eq]; omega
              rcases hpush with rfl | rfl | rfl
              all_goals
                go_wp2_with fail
                refine (push_full b r N ins.length g (ins.drop g) rg x.a x.b x.c x.d _ HO.out (by omega) (by omega)).mono ?_
                rintro e w3 ⟨rfl, hk3⟩
                have HK3 := Lib.hid hk3
                clear hk3
                go_wp2_with fail
                go_meet
                case rel => exact ⟨g, ins, by omega, H1.out.keep HK3.out⟩
          · have h0 : ((P : Int) == 0) = false := by rw [beq_eq_false_iff_ne]; omega
            have h1 : ((P : Int) == 1) = false := by rw [beq_eq_false_iff_ne]; omega
            have h2 : ((P : Int) == 2) = false := by rw [beq_eq_false_iff_ne]; omega
            by_cases hpop : P = 3 ∨ P = 4
            · cases hx : ins.drop g with
              | nil =>
                have hgl : ¬ g < ins.length := by have := hlenD; rw [hx] at this; simp at this; omega
                have HX := Lib.hid hx
                clear hx
                rcases hpop with rfl | rfl
                all_goals
                  go_wp2_with fail
                  refine (pop_empty b r N ins.length g rg _ (by have := HO.out; rwa [HX.out] at this) (by omega)).mono ?_
                  rintro e w3 ⟨rfl, hk3⟩
                  have HK3 := Lib.hid hk3
                  clear hk3
                  go_wp2_with fail
                  go_meet
                  case rel => exact ⟨g, ins, by omega, H1.out.keep (HK3.out.alloc _)⟩
              | cons y l =>
                have hgl : g < ins.length := by have := hlenD; rw [hx] at this; simp at this; omega
                have HX := Lib.hid hx
                clear hx
                rcases hpop with rfl | rfl
                all_goals
                  go_wp2_with fail
                  refine (pop_ok b r N ins.length g y l rg _ (by have := HO.out; rwa [HX.out] at this) (by omega)).mono ?_
                  rintro e w3 ⟨rfl, ho3, hk3⟩
                  have HVO := Lib.hid (own_turn H1.out.vo_ hk3 (fun q hq hh => by omega))
                  have hs3 := hk3.size
                  have HO3 := Lib.hid ho3
                  have HK3 := Lib.hid hk3
                  clear ho3 hk3
                  go_wp2_with (at_builtin; refine wpList_append_lies _ rfl _ _ 42 rfl w2.heap.size 30 i0 (.agg #[.int .i64 0, .int .i64 0, .int .i64 0, .int .i64 0]) 4 32 Try.underlying42 hi hz0 hz1 hz2 rfl (by decide) _ _ _ rfl ((HVO.out.alloc _).alloc _) ⟨w3.heap.size + 1, 0, none⟩ 1 1 y.cells rfl rfl (cells_four_at _ y _ _ (by simp)) (four_oneCell y) (by decide) (by unfold maxLen; omega) (by omega) (by simp; omega) _ rfl ?_; intro g5 cp5 w5 hown5 hgrow5 hat5 hlt5)
                  go_meet
                  case rel =>
                    refine ⟨g + 1, ins, by omega, H1.out.pop (x := y) (l := l) (ring := rg) HX.out ((HO3.out.alloc _).alloc _) ((HK3.out.alloc _).alloc _) hown5 hgrow5 ?_⟩
                    rcases hat5 with h | h
                    · exact .inl h.symm
                    · exact .inr (by rw [h]; rfl)
            · obtain rfl : P = 5 := by omega
              go_wp2_with fail
              refine (clear_calls b r N ins.length g (ins.drop g) rg (by omega) _ HO.out).mono ?_
              rintro e w3 ⟨A7, c7, rfl, hr7, ho3, hk3, hn7⟩
              have HVO := Lib.hid (own_turn H1.out.vo_ hk3 (fun q hq hh => by omega))
              have hs3 := hk3.size
              have HO3 := Lib.hid ho3
              have HK3 := Lib.hid hk3
              obtain ⟨L, hL⟩ : ∃ L, (ins.drop g).length = L := ⟨_, rfl⟩
              rw [hL] at hr7 hlenD ⊢
              have HL := Lib.hid hL
              have hL1 : g + L ≤ ins.length := by omega
              have hL2 : ins.length ≤ g + L := by omega
              by_cases hgl : g < ins.length
              · have S7 := Lib.hid (Sl.of_own hr7)
                have hf7 : 0 < L := by rw [hlenD]; omega
                obtain ⟨g7, cp7, hv7, _, _⟩ := hr7.form hf7
                simp only [Value.slice.injEq] at hv7
                obtain ⟨rfl, _, rfl⟩ := hv7
                clear ho3 hk3 hr7 hn7 hL hlenD
                go_wp2_with (at_builtin; refine wpList_append_lies _ rfl _ _ 42 rfl w2.heap.size 30 i0 (.agg #[.int .i64 0, .int .i64 0, .int .i64 0, .int .i64 0]) 4 32 Try.underlying42 hi hz0 hz1 hz2 rfl (by decide) _ _ _ rfl HVO.out ⟨g7, 0, none⟩ L c7 ((ins.drop g).flatMap It.cells) rfl (by rw [cells_length, HL.out]) (S7.out.cells_at _ rfl) (flat_oneCell _) hf7 (by unfold maxLen; omega) (by omega) (by omega) _ rfl ?_; intro g5 cp5 w5 hown5 hgrow5 hat5 hlt5)
                go_meet
                case rel =>
                  have e5 : g + L = ins.length := by omega
                  rw [e5] at hown5
                  refine ⟨ins.length, ins, by omega, ?_⟩
                  rw [e5]
                  refine H1.out.clear (ring := rg) HO3.out HK3.out hown5 hgrow5 ?_
                  rcases hat5 with h | h
                  · exact .inl h.symm
                  · exact .inr (by rw [h]; rfl)
              · have hnil : ins.drop g = [] := List.eq_nil_of_length_eq_zero (by rw [hL]; omega)
                obtain rfl : L = 0 := by omega
                obtain ⟨rfl, rfl⟩ := hn7 hnil
                have HNIL := Lib.hid hnil
                clear ho3 hk3 hr7 hn7 hnil hL hlenD
                go_wp2_with (at_builtin; refine wpList_append_own_none rfl _ _ 42 rfl w2.heap.size 30 i0 4 Try.underlying42 hi _ _ _ rfl HVO.out rfl ?_)
                go_meet
                case rel =>
                  have eg : g = ins.length := by omega
                  refine ⟨ins.length, ins, by omega, ?_⟩
                  refine H1.out.clear (ring := rg) HO3.out HK3.out ?_ ⟨rfl, rfl, rfl, Nat.le_refl _, fun _ _ _ => rfl⟩ (.inl rfl)
                  rw [HNIL.out]
                  have := HVO.out
                  simpa [eg] using this
        case rest =>
          obtain ⟨g2, ins2, hle2, hst2⟩ := hcut
          obtain ⟨ps, rs, L, hps, hrs, hins⟩ : ∃ ps rs L, ps.length = g2 ∧ rs.length = L ∧ ins2 = ps ++ rs := ⟨ins2.take g2, ins2.drop g2, _, by rw [List.length_take]; exact Nat.min_eq_left hst2.le, rfl, by simp⟩
          have hlen2 : ins2.length = g2 + L := by rw [hins, List.length_append, hps, hrs]
          have hdr : ins2.drop g2 = rs := by rw [hins, ← hps]; simp
          have htk : ins2.take g2 = ps := by rw [hins, ← hps]; simp
          obtain ⟨rg2, hO2⟩ := hst2.ob
          have hvi := hst2.vi_
          have hvo := hst2.vo_
          obtain ⟨n1, hn1⟩ : ∃ n1, g2 + L = n1 := ⟨_, rfl⟩
          have hfit := hO2.fits
          rw [hlen2, hins] at hvi
          rw [hlen2, hdr] at hO2
          rw [htk] at hvo
          rw [hlen2] at hle2
          rw [hdr, hrs] at hfit
          obtain ⟨A1, c1, rfl⟩ := ownsRow_form hvi
          have hh := own_halves hvi hps hrs
          rw [hn1] at hvi hO2 hle2 hh hst2 ⊢
          obtain ⟨A2, c2, rfl⟩ := ownsRow_form hvo
          obtain ⟨R, hR⟩ : ∃ R : Nat, (N : Int) - (L : Int) = (R : Int) := ⟨N - L, by omega⟩
          have hroom := room_full L R N (by omega) (by omega)
          have hnot : decide ((n1 : Int) < (g2 : Int)) = false := decide_eq_false (by omega)
          have hnotN : decide (n1 < g2) = false := decide_eq_false (by omega)
          have S2 := Lib.hid (Sl.of_own hvo)
          have HO2 := Lib.hid hO2
          have HPS := Lib.hid hps
          have HRS := Lib.hid hrs
          have HN1 := Lib.hid hn1
          have HL := Lib.hid (show L = n1 - g2 by omega)
          have HR := Lib.hid hR
          have bg : n1 ≤ 100 := by omega
          have bg2 : g2 ≤ n1 := by omega
          have bL : L ≤ n1 := by omega
          have iz : (0 : Int) ≤ (g2 : Int) := by omega
          have iz1 : (g2 : Int) ≤ (n1 : Int) := by omega
          have bR : R ≤ N := by omega
          have hbN := hst2.hb
          have hrN := hst2.hr
          have HLEN := Lib.hid (hlen2.trans hn1)
          have H2 := Lib.hid hst2
          clear hst2 hO2 hvi hvo hdr htk hlen2 hins hps hrs hn1 hR
          go_wp2_with fail
          rcases hh with ⟨rfl, rfl, rfl, rfl⟩ | ⟨q, rfl, hcap, hS1, hS3⟩
          · have hn0 : n1 = 0 := by have := HN1.out; omega
            have hR0 : N = R := by have := HR.out; omega
            subst hn0
            subst hR0
            have hr0 : (IntKind.i64.wrap (N : Int) != (N : Int)) = false := by simpa using room_full 0 N N (by omega) (by omega)
            have hr1 : (IntKind.i64.wrap (0 + (N : Int)) != (N : Int)) = false := by simpa using room_full 0 N N (by omega) (by omega)
            have S1 : Hid (Sl wc none ps) := Lib.hid (by rw [List.eq_nil_of_length_eq_zero HPS.out]; intro h; exact absurd rfl h)
            have S3 : Hid (Sl wc none rs) := Lib.hid (by rw [List.eq_nil_of_length_eq_zero HRS.out]; intro h; exact absurd rfl h)
            go_region_held3 (fun _ => True) (exact trivial) (first
    | (go_at_call 20; refine (same_items A8 (none) 0 cp8 0 rs _ HRS.out.symm (by omega) ?_ ?_).mono ?_; exact S8.out; exact S9.out; rintro e w9 ⟨rfl, q9, rfl⟩)
    | (go_at_call 20; refine (same_items A2 (none) 0 c2 0 ps _ HPS.out.symm (by omega) ?_ ?_).mono ?_; exact S2.out; exact S1.out; rintro e w7 ⟨rfl, q7, rfl⟩)
    | (go_at_call 12; refine (len_ob b r N 0 0 rs rg2 _ ?_ (by omega)).mono ?_; exact (HO8.out.kept ⟨rfl, rfl, rfl, Nat.le_refl _, fun _ _ _ => rfl⟩); rintro e w10 ⟨rfl, q10, rfl⟩; rw [HRS.out])
    | (go_at_call 25; refine (room_ob b r N 0 0 rs rg2 _ ?_ (by omega)).mono ?_; exact (HO8.out.kept ⟨rfl, rfl, rfl, Nat.le_refl _, fun _ _ _ => rfl⟩); rintro e w11 ⟨rfl, q11, rfl⟩; rw [HRS.out, HR.out])
    | (go_at_call 15; refine (ever_ob b r N 0 0 rs rg2 _ ?_).mono ?_; exact (HO8.out.kept ⟨rfl, rfl, rfl, Nat.le_refl _, fun _ _ _ => rfl⟩); rintro e w12 ⟨rfl, rfl⟩)
    | (go_at_call 24; refine (all_calls b r N 0 0 rs rg2 (by omega) _ ?_).mono ?_; exact (HO2.out.kept ⟨rfl, rfl, rfl, Nat.le_refl _, fun _ _ _ => rfl⟩); rintro e w8 ⟨A8, cp8, rfl, hr8, hk8, _⟩; rw [HRS.out] at hr8 ⊢; have HO8 := Lib.hid (HO2.out.kept ⟨hk8.os, hk8.tape, hk8.output, hk8.size, hk8.block⟩); have K8 := Lib.hid (show Kept wc w8 from ⟨hk8.os, hk8.tape, hk8.output, hk8.size, hk8.block⟩); have S8 := Lib.hid (Sl.of_own hr8); have S9 := Lib.hid (Sl.keep (S3.out) K8.out); clear hr8 hk8)
    | fail "no arm"
    )
            all_goals
              go_wp2_with fail
              go_roundw
              case rel =>
                exact ⟨k + 1, 0, ins2, by go_num, by omega, by rw [HLEN.out]; exact hle2, H2.out.keep (K8.out.drewN _)⟩
              case measure => simp [intOf]; omega
          · have S1 := Lib.hid hS1
            have S3 := Lib.hid hS3
            clear hS1 hS3
            have iz2 : (g2 : Int) ≤ (c1 : Int) := by omega
            have iz3 : (n1 : Int) ≤ (c1 : Int) := by omega
            by_cases hcg : c1 = g2
            · have hgn : g2 = n1 := by have := HN1.out; omega
              subst hcg
              subst hgn
              have HL0 := Lib.hid (show L = 0 by have := HN1.out; omega)
              clear hnot hnotN
              have S3a : Hid (Sl wc (some ⟨q, 0, none⟩) rs) := Lib.hid (by rw [List.eq_nil_of_length_eq_zero (HRS.out.trans HL0.out)]; intro h; exact absurd rfl h)
              have hnot : decide (c1 < c1) = false := decide_eq_false (by omega)
              go_region_held3 (fun _ => True) (exact trivial) (first
    | (go_at_call 20; refine (same_items A8 (some ⟨q, 0, none⟩) 0 cp8 0 rs _ (HRS.out.trans HL0.out).symm (by omega) ?_ ?_).mono ?_; exact S8.out; exact S9.out; rintro e w9 ⟨rfl, q9, rfl⟩)
    | (go_at_call 20; refine (same_items A2 (some ⟨q, 0, none⟩) c1 c2 c1 ps _ HPS.out.symm (by omega) ?_ ?_).mono ?_; exact S2.out; exact S1.out; rintro e w7 ⟨rfl, q7, rfl⟩)
    | (go_at_call 12; refine (len_ob b r N c1 c1 rs rg2 _ ?_ (by omega)).mono ?_; exact (HO8.out.kept ⟨rfl, rfl, rfl, Nat.le_refl _, fun _ _ _ => rfl⟩); rintro e w10 ⟨rfl, q10, rfl⟩; rw [HRS.out])
    | (go_at_call 25; refine (room_ob b r N c1 c1 rs rg2 _ ?_ (by omega)).mono ?_; exact (HO8.out.kept ⟨rfl, rfl, rfl, Nat.le_refl _, fun _ _ _ => rfl⟩); rintro e w11 ⟨rfl, q11, rfl⟩; rw [HRS.out, HR.out])
    | (go_at_call 15; refine (ever_ob b r N c1 c1 rs rg2 _ ?_).mono ?_; exact (HO8.out.kept ⟨rfl, rfl, rfl, Nat.le_refl _, fun _ _ _ => rfl⟩); rintro e w12 ⟨rfl, rfl⟩)
    | (go_at_call 24; refine (all_calls b r N c1 c1 rs rg2 (by omega) _ ?_).mono ?_; exact (HO2.out.kept ⟨rfl, rfl, rfl, Nat.le_refl _, fun _ _ _ => rfl⟩); rintro e w8 ⟨A8, cp8, rfl, hr8, hk8, _⟩; rw [HRS.out, HL0.out] at hr8 ⊢; have HO8 := Lib.hid (HO2.out.kept ⟨hk8.os, hk8.tape, hk8.output, hk8.size, hk8.block⟩); have K8 := Lib.hid (show Kept wc w8 from ⟨hk8.os, hk8.tape, hk8.output, hk8.size, hk8.block⟩); have S8 := Lib.hid (Sl.of_own hr8); have S9 := Lib.hid (Sl.keep (S3a.out) K8.out); clear hr8 hk8)
    | fail "no arm"
    )
              all_goals
                go_wp2_with fail
                go_roundw
                case rel =>
                  exact ⟨k + 1, c1, ins2, by go_num, by omega, by rw [HLEN.out]; exact hle2, H2.out.keep (K8.out.drewN _)⟩
                case measure => simp [intOf]; omega
            · have hcc : (c1 - g2 == 0) = false := by rw [beq_eq_false_iff_ne]; omega
              go_region_held3 (fun _ => True) (exact trivial) (first
    | (go_at_call 20; refine (same_items A8 (some ⟨q, g2 * 4, none⟩) (n1 - g2) cp8 (c1 - g2) rs _ (HRS.out.trans HL.out).symm (by omega) ?_ ?_).mono ?_; exact S8.out; exact S9.out; rintro e w9 ⟨rfl, q9, rfl⟩)
    | (go_at_call 20; refine (same_items A2 (some ⟨q, 0, none⟩) g2 c2 c1 ps _ HPS.out.symm (by omega) ?_ ?_).mono ?_; exact S2.out; exact S1.out; rintro e w7 ⟨rfl, q7, rfl⟩)
    | (go_at_call 12; refine (len_ob b r N n1 g2 rs rg2 _ ?_ (by omega)).mono ?_; exact (HO8.out.kept ⟨rfl, rfl, rfl, Nat.le_refl _, fun _ _ _ => rfl⟩); rintro e w10 ⟨rfl, q10, rfl⟩; rw [HRS.out])
    | (go_at_call 25; refine (room_ob b r N n1 g2 rs rg2 _ ?_ (by omega)).mono ?_; exact (HO8.out.kept ⟨rfl, rfl, rfl, Nat.le_refl _, fun _ _ _ => rfl⟩); rintro e w11 ⟨rfl, q11, rfl⟩; rw [HRS.out, HR.out])
    | (go_at_call 15; refine (ever_ob b r N n1 g2 rs rg2 _ ?_).mono ?_; exact (HO8.out.kept ⟨rfl, rfl, rfl, Nat.le_refl _, fun _ _ _ => rfl⟩); rintro e w12 ⟨rfl, rfl⟩)
    | (go_at_call 24; refine (all_calls b r N n1 g2 rs rg2 (by omega) _ ?_).mono ?_; exact (HO2.out.kept ⟨rfl, rfl, rfl, Nat.le_refl _, fun _ _ _ => rfl⟩); rintro e w8 ⟨A8, cp8, rfl, hr8, hk8, _⟩; rw [HRS.out, HL.out] at hr8 ⊢; have HO8 := Lib.hid (HO2.out.kept ⟨hk8.os, hk8.tape, hk8.output, hk8.size, hk8.block⟩); have K8 := Lib.hid (show Kept wc w8 from ⟨hk8.os, hk8.tape, hk8.output, hk8.size, hk8.block⟩); have S8 := Lib.hid (Sl.of_own hr8); have S9 := Lib.hid (Sl.keep (S3.out) K8.out); clear hr8 hk8)
    | fail "no arm"
    )
              all_goals
                go_wp2_with fail
                go_roundw
                case rel =>
                  exact ⟨k + 1, g2, ins2, by go_num, by omega, by rw [HLEN.out]; exact hle2, H2.out.keep (K8.out.drewN _)⟩
                case measure => simp [intOf]; omega
      · go_wp2_with fail
        go_ret
        exact ⟨rfl, H1.out.kept⟩

end Go.Proofs.Ytoohkcboidamnaa

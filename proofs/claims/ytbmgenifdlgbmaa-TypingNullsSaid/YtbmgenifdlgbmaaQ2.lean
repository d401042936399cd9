-- Written by a program of this session (wip/prx.py) out of the translation; Lean checks it.
import Derived.Test.YtbmgenifdlgbmaaQ0
namespace Go.Proofs.Ytbmgenifdlgbmaa.Q
open Go.RowKit Go.Proofs.YtbmgenifdlgbmaaW.PrintWords Go.Proofs.YtbmgenifdlgbmaaW.PrintLast Go.Proofs.YtbmgenifdlgbmaaW.PrintMore
attribute [local go_sem] max2_int min2_int max_two min_two max_three min_three max_four min_four   -- for this text's walks alone
set_option linter.unusedVariables false
set_option linter.unusedSimpArgs false

/-! ### registrarlaw15_few: function 13 -/
def registrarlaw15_few.f (l0 : List Int) (l1 : List Int) : Option (Bool) := if (l0.length : Int) ≤ 12 then (some (decide ((l1.length : Int) ≤ 12))) else (some false)
set_option maxHeartbeats 8000000 in
set_option maxRecDepth 100000 in
theorem registrarlaw15_few.calls (A0 : Option Addr) (c0 : Nat) (l0 : List Int) (A1 : Option Addr) (c1 : Nat) (l1 : List Int) (r : Bool) (w : World) (hr0 : Kd.C (Kd.int .i64) w A0 l0.length l0) (hc0 : l0.length ≤ c0) (hr1 : Kd.C (Kd.int .i64) w A1 l1.length l1) (hc1 : l1.length ≤ c1) (h : registrarlaw15_few.f l0 l1 = some r) :
    Calls Try.prog 13 #[.slice A0 l0.length c0, .slice A1 l1.length c1] w fun e w' => e = .returned (.bool r) ∧ Drawn0 w w' := by
  have HR0 := Cs.am hr0
  have HC0 := Cs.am hc0
  clear hr0 hc0
  have HR1 := Cs.am hr1
  have HC1 := Cs.am hc1
  clear hr1 hc1
  have H : (if (l0.length : Int) ≤ 12 then (some (decide ((l1.length : Int) ≤ 12))) else (some false)) = some r := h
  clear h
  by_cases c3 : (l0.length : Int) ≤ 12
  · rw [if_pos c3] at H
    have c3b0 : decide ((l0.length : Int) ≤ 12) = true := decide_eq_true c3
    have c3b1 : decide (l0.length ≤ 12) = true := decide_eq_true (by omega)
    clear c3
    obtain rfl := Option.some.inj H
    go_enter Try.func13, Try.ntmps13
    go_wp2
    go_ret
    exact ⟨by first | rfl | (simp; done) | (simp [*]; done), by repeat (first | exact Drawn0.refl _ | apply Drawn0.step)⟩
  · rw [if_neg c3] at H
    have c3b0 : decide ((l0.length : Int) ≤ 12) = false := decide_eq_false c3
    have c3b1 : decide (l0.length ≤ 12) = false := decide_eq_false (by omega)
    clear c3
    obtain rfl := Option.some.inj H
    go_enter Try.func13, Try.ntmps13
    go_wp2
    go_ret
    exact ⟨by first | rfl | (simp; done) | (simp [*]; done), by repeat (first | exact Drawn0.refl _ | apply Drawn0.step)⟩

/-! ### registrarref10_count: function 51 -/
mutual
def registrarref10_count.j0 : Nat → Int → Bool → Int → Int → Int → Int → ByteArray → ByteArray → List (S26) → Option (Int × Bool)
  | 0, _, _, _, _, _, _, _, _, _ => none
  | k + 1, x1, x28, x102000, x102001, x102002, x102003, x102004, x102005, x102006 => if x28 = true then (some (0, false)) else (registrarref10_count.l0 k (wrap64 (x1 - 1)) 0 x102000 x102001 x102002 x102003 x102004 x102005 x102006)
def registrarref10_count.l0 : Nat → Int → Int → Int → Int → Int → Int → ByteArray → ByteArray → List (S26) → Option (Int × Bool)
  | 0, _, _, _, _, _, _, _, _, _ => none
  | k + 1, x1, x6, x102000, x102001, x102002, x102003, x102004, x102005, x102006 => if x6 < (x102006.length : Int) then (if 0 ≤ x6 then ((registrarref10_count.f k ((rd_T26 x102006 x6).f0) ((rd_T26 x102006 x6).f1) ((rd_T26 x102006 x6).f2.f0) ((rd_T26 x102006 x6).f2.f1) ((rd_T26 x102006 x6).f2.f2) ((rd_T26 x102006 x6).f3) ((rd_T26 x102006 x6).f4) x1).bind fun bt103 => (if bt103.2 = true then (registrarref10_count.l0 k bt103.1 (wrap64 (x6 + 1)) x102000 x102001 x102002 x102003 x102004 x102005 x102006) else (some (0, false)))) else (none)) else (some (x1, true))
def registrarref10_count.f : Nat → Int → Int → Int → Int → ByteArray → ByteArray → List (S26) → Int → Option (Int × Bool)
  | 0, _, _, _, _, _, _, _, _ => none
  | k + 1, a0_0, a0_1, a0_2, a0_3, a0_4, a0_5, l0_6, a1 => if a1 ≤ 0 then (registrarref10_count.j0 k a1 true a0_0 a0_1 a0_2 a0_3 a0_4 a0_5 l0_6) else (if (l0_6.length : Int) > 12 then (registrarref10_count.j0 k a1 true a0_0 a0_1 a0_2 a0_3 a0_4 a0_5 l0_6) else (if (a0_5.size : Int) > 100 then (registrarref10_count.j0 k a1 true a0_0 a0_1 a0_2 a0_3 a0_4 a0_5 l0_6) else (registrarref10_count.j0 k a1 (decide ((a0_4.size : Int) > 100)) a0_0 a0_1 a0_2 a0_3 a0_4 a0_5 l0_6)))
end
theorem registrarref10_count.mono_l : ∀ k, (∀ y0 y1 y2 y3 y4 y5 y6 y7, LeO (registrarref10_count.f k y0 y1 y2 y3 y4 y5 y6 y7) (registrarref10_count.f (k + 1) y0 y1 y2 y3 y4 y5 y6 y7)) ∧ (∀ y0 y1 y2 y3 y4 y5 y6 y7 y8, LeO (registrarref10_count.j0 k y0 y1 y2 y3 y4 y5 y6 y7 y8) (registrarref10_count.j0 (k + 1) y0 y1 y2 y3 y4 y5 y6 y7 y8)) ∧ (∀ y0 y1 y2 y3 y4 y5 y6 y7 y8, LeO (registrarref10_count.l0 k y0 y1 y2 y3 y4 y5 y6 y7 y8) (registrarref10_count.l0 (k + 1) y0 y1 y2 y3 y4 y5 y6 y7 y8))
  | 0 => ⟨fun _ _ _ _ _ _ _ _ r h => by simp [registrarref10_count.f] at h, fun _ _ _ _ _ _ _ _ _ r h => by simp [registrarref10_count.j0] at h, fun _ _ _ _ _ _ _ _ _ r h => by simp [registrarref10_count.l0] at h⟩
  | k + 1 => by
    obtain ⟨ih0, ih1, ih2⟩ := registrarref10_count.mono_l k
    refine ⟨?_, ?_, ?_⟩
    · intro y0 y1 y2 y3 y4 y5 y6 y7
      unfold registrarref10_count.f
      repeat' first
      | (with_reducible exact ih0 _ _ _ _ _ _ _ _)
      | (with_reducible exact ih1 _ _ _ _ _ _ _ _ _)
      | (with_reducible exact ih2 _ _ _ _ _ _ _ _ _)
      | (with_reducible exact LeO.refl _)
      | (with_reducible exact LeO.none _)
      | (with_reducible refine LeO.ite ?_ ?_)
      | (with_reducible refine LeO.bind ?_ (fun _ => ?_))
      | exact ih0 _ _ _ _ _ _ _ _
      | exact ih1 _ _ _ _ _ _ _ _ _
      | exact ih2 _ _ _ _ _ _ _ _ _
      | exact LeO.none _
      | refine LeO.ite ?_ ?_
      | refine LeO.bind ?_ (fun _ => ?_)
    · intro y0 y1 y2 y3 y4 y5 y6 y7 y8
      unfold registrarref10_count.j0
      repeat' first
      | (with_reducible exact ih0 _ _ _ _ _ _ _ _)
      | (with_reducible exact ih1 _ _ _ _ _ _ _ _ _)
      | (with_reducible exact ih2 _ _ _ _ _ _ _ _ _)
      | (with_reducible exact LeO.refl _)
      | (with_reducible exact LeO.none _)
      | (with_reducible refine LeO.ite ?_ ?_)
      | (with_reducible refine LeO.bind ?_ (fun _ => ?_))
      | exact ih0 _ _ _ _ _ _ _ _
      | exact ih1 _ _ _ _ _ _ _ _ _
      | exact ih2 _ _ _ _ _ _ _ _ _
      | exact LeO.none _
      | refine LeO.ite ?_ ?_
      | refine LeO.bind ?_ (fun _ => ?_)
    · intro y0 y1 y2 y3 y4 y5 y6 y7 y8
      unfold registrarref10_count.l0
      repeat' first
      | (with_reducible exact ih0 _ _ _ _ _ _ _ _)
      | (with_reducible exact ih1 _ _ _ _ _ _ _ _ _)
      | (with_reducible exact ih2 _ _ _ _ _ _ _ _ _)
      | (with_reducible exact LeO.refl _)
      | (with_reducible exact LeO.none _)
      | (with_reducible refine LeO.ite ?_ ?_)
      | (with_reducible refine LeO.bind ?_ (fun _ => ?_))
      | exact ih0 _ _ _ _ _ _ _ _
      | exact ih1 _ _ _ _ _ _ _ _ _
      | exact ih2 _ _ _ _ _ _ _ _ _
      | exact LeO.none _
      | refine LeO.ite ?_ ?_
      | refine LeO.bind ?_ (fun _ => ?_)
theorem registrarref10_count.mono : ∀ a0 a1 a2 a3 a4 a5 a6 a7 k, LeO (registrarref10_count.f k a0 a1 a2 a3 a4 a5 a6 a7) (registrarref10_count.f (k + 1) a0 a1 a2 a3 a4 a5 a6 a7) := by
  intro a0 a1 a2 a3 a4 a5 a6 a7 k
  obtain ⟨ih0, ih1, ih2⟩ := registrarref10_count.mono_l k
  exact ih0 a0 a1 a2 a3 a4 a5 a6 a7
set_option maxHeartbeats 8000000 in
set_option maxRecDepth 100000 in
theorem registrarref10_count.calls (k : Nat) : ∀ (a0_0 : Int) (a0_1 : Int) (a0_2 : Int) (a0_3 : Int) (a0_4 : ByteArray) (a0_5 : ByteArray) (A0_6 : Option Addr) (c0_6 : Nat) (l0_6 : List (S26)) (a1 : Int) (r1 : Int) (r2 : Bool) (w : World) (hr0_6 : Kd.C k26 w A0_6 l0_6.length l0_6) (hc0_6 : l0_6.length ≤ c0_6) (h : registrarref10_count.f k a0_0 a0_1 a0_2 a0_3 a0_4 a0_5 l0_6 a1 = some (r1, r2)),
    Calls Try.prog 51 #[.agg #[.int .i64 a0_0, .int .i64 a0_1, .int .i64 a0_2, .int .i64 a0_3, .string a0_4, .string a0_5, .slice A0_6 l0_6.length c0_6], .int .i64 a1] w fun e w' => e = .returned (.tuple #[.int .i64 r1, .bool r2]) ∧ Below w.heap.size w w' := by
  induction k using Nat.strongRecOn with
  | _ k ih =>
  intro a0_0 a0_1 a0_2 a0_3 a0_4 a0_5 A0_6 c0_6 l0_6 a1 r1 r2 w hr0_6 hc0_6 h
  cases k with
  | zero => exact absurd h (by simp [registrarref10_count.f])
  | succ k =>
  simp only [registrarref10_count.f] at h
  have hu26 := Try.underlying26
  have HR0_6 := Cs.am hr0_6
  have HC0_6 := Cs.am hc0_6
  clear hr0_6 hc0_6
  have HB := Cs.am (Below.refl w.heap.size w)
  have H : (if a1 ≤ 0 then (registrarref10_count.j0 k a1 true a0_0 a0_1 a0_2 a0_3 a0_4 a0_5 l0_6) else (if (l0_6.length : Int) > 12 then (registrarref10_count.j0 k a1 true a0_0 a0_1 a0_2 a0_3 a0_4 a0_5 l0_6) else (if (a0_5.size : Int) > 100 then (registrarref10_count.j0 k a1 true a0_0 a0_1 a0_2 a0_3 a0_4 a0_5 l0_6) else (registrarref10_count.j0 k a1 (decide ((a0_4.size : Int) > 100)) a0_0 a0_1 a0_2 a0_3 a0_4 a0_5 l0_6)))) = some (r1, r2) := h
  clear h
  have HC3 := Cs.am H
  clear H
  go_enter Try.func51, Try.ntmps51
  go_upto_region 1 with (first | ((with_reducible refine gate_dst (N := 2) rfl ?_); (try (refine gate_guard (by rfl) ?_; dsimp only)); refine box_event ?hg (N := 2) ?hd (cs := #[.int .i64 a0_0, .int .i64 a0_1, .int .i64 a0_2, .int .i64 a0_3, .string a0_4, .string a0_5, .slice A0_6 l0_6.length c0_6]) (t := 26) ?hr ?_; (case hd => rfl); (case hg => rfl); (case hr => first | (go_simp; done) | (go_simp; rfl)); intro gb101 hg w4 hbox hb; have n0_ := Cs.am (Cs.bp (by repeat (first | (with_reducible first | exact HB.out | apply Cs.ba | apply Cs.bn | apply Cs.bd) | exact HB.out)) hb); have n1_ := Cs.am (hbox); have n2_ := Cs.am ((by rw [hg]; exact (Cs.bz (by repeat (first | (with_reducible first | exact HB.out | apply Cs.ba | apply Cs.bn | apply Cs.bd) | exact HB.out))) : w.heap.size ≤ gb101)); have n3_ := Cs.am ((by rw [hg]; exact (Cs.bz (by repeat (first | (with_reducible first | exact HB.out | apply Cs.ba | apply Cs.bn | apply Cs.bd) | exact HB.out))) : w.heap.size ≤ gb101)); clear HB; have HB := n0_; have BK101 := n1_; have GW101 := n2_; have GE101 := n3_; clear n0_ n1_ n2_ n3_; clear hb hbox hg))
  (try simp only [Act.put, List.setIfInBounds_toArray, List.set_cons_zero, List.set_cons_succ])
  go_cut [28] (fun v28 wc => ∃ (kq : Nat) (x28_2 : Bool), v28 = .bool x28_2 ∧ Aside0 (registrarref10_count.j0 kq a1 x28_2 a0_0 a0_1 a0_2 a0_3 a0_4 a0_5 l0_6 = some (r1, r2)) ∧ Aside0 (kq ≤ k) ∧ Aside0 (wc.heap[gb101]? = some (.cells #[.int .i64 a0_0, .int .i64 a0_1, .int .i64 a0_2, .int .i64 a0_3, .string a0_4, .string a0_5, (.slice A0_6 l0_6.length c0_6)] 26 (0, 0))) ∧ Aside0 (Below w.heap.size w wc))
  case first =>
    have H := HC3.out
    clear HC3
    by_cases c5 : a1 ≤ 0
    · rw [if_pos c5] at H
      have c5b0 : decide (a1 ≤ 0) = true := decide_eq_true c5
      clear c5
      (first | rw [c5b0] | (simp only [i64_w, i32_w]; rw [c5b0]) | skip)
      have H' := Cs.am H
      clear H
      go_wp2
      go_meet
      case rel => exact ⟨_, (true), (by first | rfl | (simp; done) | (simp [*]; done)), H', ⟨by first | omega | exact Nat.le_refl _⟩, ⟨by (with_reducible repeat (first | refine Cs.kn ?_ _ | refine Cs.kd1 ?_ | refine Cs.ka ?_ _)); exact BK101.out⟩, ⟨by repeat (first | (with_reducible first | exact HB.out | apply Cs.ba | apply Cs.bn | apply Cs.bd | refine Cs.bs ?_ GE101.out) | exact HB.out)⟩⟩
    · rw [if_neg c5] at H
      have c5b0 : decide (a1 ≤ 0) = false := decide_eq_false c5
      clear c5
      (first | rw [c5b0] | (simp only [i64_w, i32_w]; rw [c5b0]) | skip)
      by_cases c6 : (l0_6.length : Int) > 12
      · rw [if_pos c6] at H
        have c6b0 : decide (12 < (l0_6.length : Int)) = true := decide_eq_true c6
        have c6b1 : decide (12 < l0_6.length) = true := decide_eq_true (by omega)
        clear c6
        have H' := Cs.am H
        clear H
        obtain ⟨hcz7_0, hcz7_1, hcz7_2, hcz7_3, hcz7_4, hcz7_5, hcz7_6⟩ := Cs.cs7 BK101.out
        obtain ⟨hfz7_0, hfz7_1, hfz7_2, hfz7_3, hfz7_4, hfz7_5, hfz7_6⟩ := Cs.fz7 BK101.out
        go_wp2
        go_meet
        case rel => exact ⟨_, (true), (by first | rfl | (simp; done) | (simp [*]; done)), H', ⟨by first | omega | exact Nat.le_refl _⟩, ⟨by (with_reducible repeat (first | refine Cs.kn ?_ _ | refine Cs.kd1 ?_ | refine Cs.ka ?_ _)); exact BK101.out⟩, ⟨by repeat (first | (with_reducible first | exact HB.out | apply Cs.ba | apply Cs.bn | apply Cs.bd | refine Cs.bs ?_ GE101.out) | exact HB.out)⟩⟩
      · rw [if_neg c6] at H
        have c6b0 : decide (12 < (l0_6.length : Int)) = false := decide_eq_false c6
        have c6b1 : decide (12 < l0_6.length) = false := decide_eq_false (by omega)
        clear c6
        by_cases c8 : (a0_5.size : Int) > 100
        · rw [if_pos c8] at H
          have c8b0 : decide (100 < (a0_5.size : Int)) = true := decide_eq_true c8
          have c8b1 : decide (100 < a0_5.size) = true := decide_eq_true (by omega)
          clear c8
          have H' := Cs.am H
          clear H
          obtain ⟨hcz9_0, hcz9_1, hcz9_2, hcz9_3, hcz9_4, hcz9_5, hcz9_6⟩ := Cs.cs7 BK101.out
          obtain ⟨hfz9_0, hfz9_1, hfz9_2, hfz9_3, hfz9_4, hfz9_5, hfz9_6⟩ := Cs.fz7 BK101.out
          go_wp2
          go_meet
          case rel => exact ⟨_, (true), (by first | rfl | (simp; done) | (simp [*]; done)), H', ⟨by first | omega | exact Nat.le_refl _⟩, ⟨by (with_reducible repeat (first | refine Cs.kn ?_ _ | refine Cs.kd1 ?_ | refine Cs.ka ?_ _)); exact BK101.out⟩, ⟨by repeat (first | (with_reducible first | exact HB.out | apply Cs.ba | apply Cs.bn | apply Cs.bd | refine Cs.bs ?_ GE101.out) | exact HB.out)⟩⟩
        · rw [if_neg c8] at H
          have c8b0 : decide (100 < (a0_5.size : Int)) = false := decide_eq_false c8
          have c8b1 : decide (100 < a0_5.size) = false := decide_eq_false (by omega)
          clear c8
          have H' := Cs.am H
          clear H
          obtain ⟨hcz10_0, hcz10_1, hcz10_2, hcz10_3, hcz10_4, hcz10_5, hcz10_6⟩ := Cs.cs7 BK101.out
          obtain ⟨hfz10_0, hfz10_1, hfz10_2, hfz10_3, hfz10_4, hfz10_5, hfz10_6⟩ := Cs.fz7 BK101.out
          go_wp2
          go_meet
          case rel => exact ⟨_, (decide ((a0_4.size : Int) > 100)), (by first | rfl | (simp; done) | (simp [*]; done)), H', ⟨by first | omega | exact Nat.le_refl _⟩, ⟨by (with_reducible repeat (first | refine Cs.kn ?_ _ | refine Cs.kd1 ?_ | refine Cs.ka ?_ _)); exact BK101.out⟩, ⟨by repeat (first | (with_reducible first | exact HB.out | apply Cs.ba | apply Cs.bn | apply Cs.bd | refine Cs.bs ?_ GE101.out) | exact HB.out)⟩⟩
  case rest =>
    clear HC3
    try clear p2
    try clear c5
    try clear c5b0
    try clear c6
    try clear c6b0
    try clear c6b1
    try clear c8
    try clear c8b0
    try clear c8b1
    try clear hcz10_0
    try clear hcz10_1
    try clear hcz10_2
    try clear hcz10_3
    try clear hcz10_4
    try clear hcz10_5
    try clear hcz10_6
    try clear hcz7_0
    try clear hcz7_1
    try clear hcz7_2
    try clear hcz7_3
    try clear hcz7_4
    try clear hcz7_5
    try clear hcz7_6
    try clear hcz9_0
    try clear hcz9_1
    try clear hcz9_2
    try clear hcz9_3
    try clear hcz9_4
    try clear hcz9_5
    try clear hcz9_6
    try clear hfz10_0
    try clear hfz10_1
    try clear hfz10_2
    try clear hfz10_3
    try clear hfz10_4
    try clear hfz10_5
    try clear hfz10_6
    try clear hfz7_0
    try clear hfz7_1
    try clear hfz7_2
    try clear hfz7_3
    try clear hfz7_4
    try clear hfz7_5
    try clear hfz7_6
    try clear hfz9_0
    try clear hfz9_1
    try clear hfz9_2
    try clear hfz9_3
    try clear hfz9_4
    try clear hfz9_5
    try clear hfz9_6
    obtain ⟨kq, x28_2, rfl, HA, HJ2, BK101, HB⟩ := hcut
    cases kq with
    | zero => exact absurd HA.out (by simp [registrarref10_count.j0])
    | succ kj2 =>
      have H := HA.out
      clear HA
      simp only [registrarref10_count.j0] at H
      by_cases c11 : x28_2 = true
      · subst c11
        have H1 : (some (0, false)) = some (r1, r2) := by rw [if_pos rfl] at H; exact H
        clear H
        have H := H1
        clear H1
        simp only [Option.some.injEq, Prod.mk.injEq] at H
        obtain ⟨rfl, rfl⟩ := H
        go_wp2
        go_ret2
        exact ⟨by first | rfl | (simp [errW_none, errW_some] <;> rfl) | (simp [*, errW_none, errW_some] <;> rfl), by repeat (first | (with_reducible first | exact HB.out | apply Cs.ba | apply Cs.bn | apply Cs.bd | refine Cs.bs ?_ GE101.out) | exact HB.out)⟩
      · replace c11 := Bool.eq_false_iff.mpr c11
        subst c11
        have H1 : (registrarref10_count.l0 kj2 (wrap64 (a1 - 1)) 0 a0_0 a0_1 a0_2 a0_3 a0_4 a0_5 l0_6) = some (r1, r2) := by rw [if_neg (show ¬ (false = true) by decide)] at H; exact H
        clear H
        have H := H1
        clear H1
        have H' := Cs.am H
        clear H
        go_wp2
        go_loopg [1, 6] kj2 (fun kq v1 v6 w' => ∃ (x1_2 : Int) (x6_2 : Int), v1 = .int .i64 x1_2 ∧ v6 = .int .i64 x6_2 ∧ Aside0 (registrarref10_count.l0 kq x1_2 x6_2 a0_0 a0_1 a0_2 a0_3 a0_4 a0_5 l0_6 = some (r1, r2)) ∧ Aside0 (kq ≤ kj2) ∧ Aside0 (w'.heap[gb101]? = some (.cells #[.int .i64 a0_0, .int .i64 a0_1, .int .i64 a0_2, .int .i64 a0_3, .string a0_4, .string a0_5, (.slice A0_6 l0_6.length c0_6)] 26 (0, 0))) ∧ Aside0 (Below w.heap.size w w'))
        case atStart => exact ⟨(wrap64 (a1 - 1)), (0), (by first | rfl | (simp; done) | (simp [*]; done)), (by first | rfl | (simp; done) | (simp [*]; done)), H', ⟨Nat.le_refl _⟩, ⟨by (with_reducible repeat (first | refine Cs.kn ?_ _ | refine Cs.kd1 ?_ | refine Cs.ka ?_ _)); exact BK101.out⟩, ⟨by repeat (first | (with_reducible first | exact HB.out | apply Cs.ba | apply Cs.bn | apply Cs.bd | refine Cs.bs ?_ GE101.out) | exact HB.out)⟩⟩
        case round =>
          clear H'
          try clear c1
          try clear p2
          try clear c5
          try clear c5b0
          try clear c6
          try clear c6b0
          try clear c6b1
          try clear p6
          try clear c8
          try clear c8b0
          try clear c8b1
          try clear c11
          try clear hcz10_0
          try clear hcz10_1
          try clear hcz10_2
          try clear hcz10_3
          try clear hcz10_4
          try clear hcz10_5
          try clear hcz10_6
          try clear hcz7_0
          try clear hcz7_1
          try clear hcz7_2
          try clear hcz7_3
          try clear hcz7_4
          try clear hcz7_5
          try clear hcz7_6
          try clear hcz9_0
          try clear hcz9_1
          try clear hcz9_2
          try clear hcz9_3
          try clear hcz9_4
          try clear hcz9_5
          try clear hcz9_6
          try clear hfz10_0
          try clear hfz10_1
          try clear hfz10_2
          try clear hfz10_3
          try clear hfz10_4
          try clear hfz10_5
          try clear hfz10_6
          try clear hfz7_0
          try clear hfz7_1
          try clear hfz7_2
          try clear hfz7_3
          try clear hfz7_4
          try clear hfz7_5
          try clear hfz7_6
          try clear hfz9_0
          try clear hfz9_1
          try clear hfz9_2
          try clear hfz9_3
          try clear hfz9_4
          try clear hfz9_5
          try clear hfz9_6
          try clear p2
          obtain ⟨x1_2, x6_2, rfl, rfl, HA, HK2, BK101, HB⟩ := hrel
          cases gk with
          | zero => exact absurd HA.out (by simp [registrarref10_count.l0])
          | succ k2 =>
            have H := HA.out
            clear HA
            simp only [registrarref10_count.l0] at H
            by_cases c12 : x6_2 < (l0_6.length : Int)
            · rw [if_pos c12] at H
              have c12b0 : decide (x6_2 < (l0_6.length : Int)) = true := decide_eq_true c12
              clear c12
              by_cases c13 : 0 ≤ x6_2
              · rw [if_pos c13] at H
                have c13b0 : decide (0 ≤ x6_2) = true := decide_eq_true c13
                clear c13
                replace H := Option.bind_eq_some_iff.mp H
                obtain ⟨⟨t103, t104⟩, A140, H⟩ := H
                replace H : (if t104 = true then (registrarref10_count.l0 k2 t103 (wrap64 (x6_2 + 1)) a0_0 a0_1 a0_2 a0_3 a0_4 a0_5 l0_6) else (some (0, false))) = some (r1, r2) := H
                have A14 := Cs.am A140
                clear A140
                by_cases c15 : t104 = true
                · subst c15
                  have H1 : (registrarref10_count.l0 k2 t103 (wrap64 (x6_2 + 1)) a0_0 a0_1 a0_2 a0_3 a0_4 a0_5 l0_6) = some (r1, r2) := by rw [if_pos rfl] at H; exact H
                  clear H
                  have H := H1
                  clear H1
                  have H' := Cs.am H
                  clear H
                  obtain ⟨hcz16_0, hcz16_1, hcz16_2, hcz16_3, hcz16_4, hcz16_5, hcz16_6⟩ := Cs.cs7 BK101.out
                  obtain ⟨hfz16_0, hfz16_1, hfz16_2, hfz16_3, hfz16_4, hfz16_5, hfz16_6⟩ := Cs.fz7 BK101.out
                  have p102 : 0 ≤ (x6_2 : Int) := of_decide_eq_true (by first | (with_reducible assumption) | assumption)
                  have q102 : x6_2 < (l0_6.length : Int) := of_decide_eq_true (by first | (with_reducible assumption) | assumption)
                  obtain ⟨ad102, A102_6, c102_6, e102, hx102_0, hx102_1, hx102_2, hx102_3, hx102_4, hx102_5, hx102_6, hl102_6, hi102_6⟩ := at_T26 HR0_6.out x6_2 p102 q102
                  cases e102
                  replace hx102_0 := (HB.out.cell (World.block_lt_of_cell? w _ hx102_0)).trans hx102_0
                  replace hx102_1 := (HB.out.cell (World.block_lt_of_cell? w _ hx102_1)).trans hx102_1
                  replace hx102_2 := (HB.out.cell (World.block_lt_of_cell? w _ hx102_2)).trans hx102_2
                  replace hx102_3 := (HB.out.cell (World.block_lt_of_cell? w _ hx102_3)).trans hx102_3
                  replace hx102_4 := (HB.out.cell (World.block_lt_of_cell? w _ hx102_4)).trans hx102_4
                  replace hx102_5 := (HB.out.cell (World.block_lt_of_cell? w _ hx102_5)).trans hx102_5
                  replace hx102_6 := (HB.out.cell (World.block_lt_of_cell? w _ hx102_6)).trans hx102_6
                  have HR102_6 := Cs.am hi102_6
                  have HC102_6 := Cs.am hl102_6
                  clear hi102_6 hl102_6
                  replace p102 := eq_true p102
                  replace q102 := eq_true q102
                  go_wp2_with (first | ((with_reducible refine gate_callee (f := 51) rfl ?_); refine goesL_ (some 45) rfl rfl Try.func51 (by kernel_rfl) rfl #[.agg #[.int .i64 ((rd_T26 l0_6 x6_2).f0), .int .i64 ((rd_T26 l0_6 x6_2).f1), .int .i64 ((rd_T26 l0_6 x6_2).f2.f0), .int .i64 ((rd_T26 l0_6 x6_2).f2.f1), .string ((rd_T26 l0_6 x6_2).f2.f2), .string ((rd_T26 l0_6 x6_2).f3), .slice A102_6 ((rd_T26 l0_6 x6_2).f4).length c102_6], .int .i64 x1_2] rfl (by (try simp only [List.map_toArray, List.map_cons, List.map_nil]); first | done | rfl | (simp only [List.length_drop, List.length_take]; rfl)) ?_; (with_reducible refine (ih k2 (by have := HJ2.out; have := HK2.out; omega) ((rd_T26 l0_6 x6_2).f0) ((rd_T26 l0_6 x6_2).f1) ((rd_T26 l0_6 x6_2).f2.f0) ((rd_T26 l0_6 x6_2).f2.f1) ((rd_T26 l0_6 x6_2).f2.f2) ((rd_T26 l0_6 x6_2).f3) _ _ ((rd_T26 l0_6 x6_2).f4) x1_2 t103 true _ ?side1 ?side2 A14.out).mono ?_); (case side1 => repeat (first | exact (Cs.cb HR102_6.out HB.out) | (with_reducible refine Cs.ca ?_ _) | (with_reducible refine Cs.cn ?_ _) | (with_reducible refine Cs.cd1 ?_))); (case side2 => exact HC102_6.out); rintro e w17 ⟨rfl, hb⟩; refine ⟨_, rfl, ?_⟩; have n0_ := Cs.am (Cs.kb (g := gb101) (o := .cells #[.int .i64 a0_0, .int .i64 a0_1, .int .i64 a0_2, .int .i64 a0_3, .string a0_4, .string a0_5, .slice (some ad102) l0_6.length c0_6] 26 (0, 0)) (by (with_reducible repeat (first | refine Cs.kn ?_ _ | refine Cs.kd1 ?_ | refine Cs.ka ?_ _)); exact BK101.out) hb); have n1_ := Cs.am (Cs.bp (by repeat (first | (with_reducible first | exact HB.out | apply Cs.ba | apply Cs.bn | apply Cs.bd | refine Cs.bs ?_ GE101.out) | exact HB.out)) hb); clear BK101; clear HB; have BK101 := n0_; have HB := n1_; clear n0_ n1_; (try clear hb); (try clear hb2); (try clear hk); (try clear hi)))
                  go_roundg k2
                  case measure => have := HJ2.out; have := HK2.out; omega
                  case rel => exact ⟨(t103), (wrap64 (x6_2 + 1)), (by first | rfl | (simp; done) | (simp [*]; done)), (by first | rfl | (simp; done) | (simp [*]; done)), H', ⟨by have := HJ2.out; have := HK2.out; omega⟩, ⟨by (with_reducible repeat (first | refine Cs.kn ?_ _ | refine Cs.kd1 ?_ | refine Cs.ka ?_ _)); exact BK101.out⟩, ⟨by repeat (first | (with_reducible first | exact HB.out | apply Cs.ba | apply Cs.bn | apply Cs.bd | refine Cs.bs ?_ GE101.out) | exact HB.out)⟩⟩
                · replace c15 := Bool.eq_false_iff.mpr c15
                  subst c15
                  have H1 : (some (0, false)) = some (r1, r2) := by rw [if_neg (show ¬ (false = true) by decide)] at H; exact H
                  clear H
                  have H := H1
                  clear H1
                  simp only [Option.some.injEq, Prod.mk.injEq] at H
                  obtain ⟨rfl, rfl⟩ := H
                  obtain ⟨hcz18_0, hcz18_1, hcz18_2, hcz18_3, hcz18_4, hcz18_5, hcz18_6⟩ := Cs.cs7 BK101.out
                  obtain ⟨hfz18_0, hfz18_1, hfz18_2, hfz18_3, hfz18_4, hfz18_5, hfz18_6⟩ := Cs.fz7 BK101.out
                  have p102 : 0 ≤ (x6_2 : Int) := of_decide_eq_true (by first | (with_reducible assumption) | assumption)
                  have q102 : x6_2 < (l0_6.length : Int) := of_decide_eq_true (by first | (with_reducible assumption) | assumption)
                  obtain ⟨ad102, A102_6, c102_6, e102, hx102_0, hx102_1, hx102_2, hx102_3, hx102_4, hx102_5, hx102_6, hl102_6, hi102_6⟩ := at_T26 HR0_6.out x6_2 p102 q102
                  cases e102
                  replace hx102_0 := (HB.out.cell (World.block_lt_of_cell? w _ hx102_0)).trans hx102_0
                  replace hx102_1 := (HB.out.cell (World.block_lt_of_cell? w _ hx102_1)).trans hx102_1
                  replace hx102_2 := (HB.out.cell (World.block_lt_of_cell? w _ hx102_2)).trans hx102_2
                  replace hx102_3 := (HB.out.cell (World.block_lt_of_cell? w _ hx102_3)).trans hx102_3
                  replace hx102_4 := (HB.out.cell (World.block_lt_of_cell? w _ hx102_4)).trans hx102_4
                  replace hx102_5 := (HB.out.cell (World.block_lt_of_cell? w _ hx102_5)).trans hx102_5
                  replace hx102_6 := (HB.out.cell (World.block_lt_of_cell? w _ hx102_6)).trans hx102_6
                  have HR102_6 := Cs.am hi102_6
                  have HC102_6 := Cs.am hl102_6
                  clear hi102_6 hl102_6
                  replace p102 := eq_true p102
                  replace q102 := eq_true q102
                  go_wp2_with (first | ((with_reducible refine gate_callee (f := 51) rfl ?_); refine goesL_ (some 45) rfl rfl Try.func51 (by kernel_rfl) rfl #[.agg #[.int .i64 ((rd_T26 l0_6 x6_2).f0), .int .i64 ((rd_T26 l0_6 x6_2).f1), .int .i64 ((rd_T26 l0_6 x6_2).f2.f0), .int .i64 ((rd_T26 l0_6 x6_2).f2.f1), .string ((rd_T26 l0_6 x6_2).f2.f2), .string ((rd_T26 l0_6 x6_2).f3), .slice A102_6 ((rd_T26 l0_6 x6_2).f4).length c102_6], .int .i64 x1_2] rfl (by (try simp only [List.map_toArray, List.map_cons, List.map_nil]); first | done | rfl | (simp only [List.length_drop, List.length_take]; rfl)) ?_; (with_reducible refine (ih k2 (by have := HJ2.out; have := HK2.out; omega) ((rd_T26 l0_6 x6_2).f0) ((rd_T26 l0_6 x6_2).f1) ((rd_T26 l0_6 x6_2).f2.f0) ((rd_T26 l0_6 x6_2).f2.f1) ((rd_T26 l0_6 x6_2).f2.f2) ((rd_T26 l0_6 x6_2).f3) _ _ ((rd_T26 l0_6 x6_2).f4) x1_2 t103 false _ ?side1 ?side2 A14.out).mono ?_); (case side1 => repeat (first | exact (Cs.cb HR102_6.out HB.out) | (with_reducible refine Cs.ca ?_ _) | (with_reducible refine Cs.cn ?_ _) | (with_reducible refine Cs.cd1 ?_))); (case side2 => exact HC102_6.out); rintro e w19 ⟨rfl, hb⟩; refine ⟨_, rfl, ?_⟩; have n0_ := Cs.am (Cs.kb (g := gb101) (o := .cells #[.int .i64 a0_0, .int .i64 a0_1, .int .i64 a0_2, .int .i64 a0_3, .string a0_4, .string a0_5, .slice (some ad102) l0_6.length c0_6] 26 (0, 0)) (by (with_reducible repeat (first | refine Cs.kn ?_ _ | refine Cs.kd1 ?_ | refine Cs.ka ?_ _)); exact BK101.out) hb); have n1_ := Cs.am (Cs.bp (by repeat (first | (with_reducible first | exact HB.out | apply Cs.ba | apply Cs.bn | apply Cs.bd | refine Cs.bs ?_ GE101.out) | exact HB.out)) hb); clear BK101; clear HB; have BK101 := n0_; have HB := n1_; clear n0_ n1_; (try clear hb); (try clear hb2); (try clear hk); (try clear hi)))
                  go_ret2
                  exact ⟨by first | rfl | (simp [errW_none, errW_some] <;> rfl) | (simp [*, errW_none, errW_some] <;> rfl), by repeat (first | (with_reducible first | exact HB.out | apply Cs.ba | apply Cs.bn | apply Cs.bd | refine Cs.bs ?_ GE101.out) | exact HB.out)⟩
              · rw [if_neg c13] at H
                exact absurd H (by simp)
            · rw [if_neg c12] at H
              have c12b0 : decide (x6_2 < (l0_6.length : Int)) = false := decide_eq_false c12
              clear c12
              simp only [Option.some.injEq, Prod.mk.injEq] at H
              obtain ⟨rfl, rfl⟩ := H
              obtain ⟨hcz20_0, hcz20_1, hcz20_2, hcz20_3, hcz20_4, hcz20_5, hcz20_6⟩ := Cs.cs7 BK101.out
              obtain ⟨hfz20_0, hfz20_1, hfz20_2, hfz20_3, hfz20_4, hfz20_5, hfz20_6⟩ := Cs.fz7 BK101.out
              go_wp2
              go_ret2
              exact ⟨by first | rfl | (simp [errW_none, errW_some] <;> rfl) | (simp [*, errW_none, errW_some] <;> rfl), by repeat (first | (with_reducible first | exact HB.out | apply Cs.ba | apply Cs.bn | apply Cs.bd | refine Cs.bs ?_ GE101.out) | exact HB.out)⟩

/-! ### registrarref10_Few: function 14 -/
def registrarref10_Few.f (k : Nat) (a0_0 : Int) (a0_1 : Int) (a0_2 : Int) (a0_3 : Int) (a0_4 : ByteArray) (a0_5 : ByteArray) (l0_6 : List (S26)) (a1 : Int) : Option (Bool) := (registrarref10_count.f k a0_0 a0_1 a0_2 a0_3 a0_4 a0_5 l0_6 a1).bind fun bt106 => (some bt106.2)
theorem registrarref10_Few.mono : ∀ a0 a1 a2 a3 a4 a5 a6 a7 k, LeO (registrarref10_Few.f k a0 a1 a2 a3 a4 a5 a6 a7) (registrarref10_Few.f (k + 1) a0 a1 a2 a3 a4 a5 a6 a7) := by
  intro a0 a1 a2 a3 a4 a5 a6 a7 k
  unfold registrarref10_Few.f
  repeat' first
      | (with_reducible exact registrarref10_count.mono _ _ _ _ _ _ _ _ _)
      | (with_reducible exact LeO.refl _)
      | (with_reducible exact LeO.none _)
      | (with_reducible refine LeO.ite ?_ ?_)
      | (with_reducible refine LeO.bind ?_ (fun _ => ?_))
      | exact registrarref10_count.mono _ _ _ _ _ _ _ _ _
      | exact LeO.none _
      | refine LeO.ite ?_ ?_
      | refine LeO.bind ?_ (fun _ => ?_)
set_option maxHeartbeats 8000000 in
set_option maxRecDepth 100000 in
theorem registrarref10_Few.calls (k : Nat) (a0_0 : Int) (a0_1 : Int) (a0_2 : Int) (a0_3 : Int) (a0_4 : ByteArray) (a0_5 : ByteArray) (A0_6 : Option Addr) (c0_6 : Nat) (l0_6 : List (S26)) (a1 : Int) (r : Bool) (w : World) (hr0_6 : Kd.C k26 w A0_6 l0_6.length l0_6) (hc0_6 : l0_6.length ≤ c0_6) (h : registrarref10_Few.f k a0_0 a0_1 a0_2 a0_3 a0_4 a0_5 l0_6 a1 = some r) :
    Calls Try.prog 14 #[.agg #[.int .i64 a0_0, .int .i64 a0_1, .int .i64 a0_2, .int .i64 a0_3, .string a0_4, .string a0_5, .slice A0_6 l0_6.length c0_6], .int .i64 a1] w fun e w' => e = .returned (.bool r) ∧ Below w.heap.size w w' := by
  have hu26 := Try.underlying26
  have HR0_6 := Cs.am hr0_6
  have HC0_6 := Cs.am hc0_6
  clear hr0_6 hc0_6
  have HB := Cs.am (Below.refl w.heap.size w)
  have H : ((registrarref10_count.f k a0_0 a0_1 a0_2 a0_3 a0_4 a0_5 l0_6 a1).bind fun bt106 => (some bt106.2)) = some r := h
  clear h
  replace H := Option.bind_eq_some_iff.mp H
  obtain ⟨⟨t106, t107⟩, A30, H⟩ := H
  replace H : (some t107) = some r := H
  have A3 := Cs.am A30
  clear A30
  obtain rfl := Option.some.inj H
  go_enter Try.func14, Try.ntmps14
  go_wp2_with (first | ((with_reducible refine gate_dst (N := 2) rfl ?_); refine box_event ?hg (N := 2) ?hd (cs := #[.int .i64 a0_0, .int .i64 a0_1, .int .i64 a0_2, .int .i64 a0_3, .string a0_4, .string a0_5, .slice A0_6 l0_6.length c0_6]) (t := 26) ?hr ?_; (case hd => rfl); (case hg => rfl); (case hr => first | (go_simp; done) | (go_simp; rfl)); intro gb105 hg w4 hbox hb; have n0_ := Cs.am (Cs.bp (by repeat (first | (with_reducible first | exact HB.out | apply Cs.ba | apply Cs.bn | apply Cs.bd) | exact HB.out)) hb); have n1_ := Cs.am (hbox); have n2_ := Cs.am ((by rw [hg]; exact (Cs.bz (by repeat (first | (with_reducible first | exact HB.out | apply Cs.ba | apply Cs.bn | apply Cs.bd) | exact HB.out))) : w.heap.size ≤ gb105)); have n3_ := Cs.am ((by rw [hg]; exact (Cs.bz (by repeat (first | (with_reducible first | exact HB.out | apply Cs.ba | apply Cs.bn | apply Cs.bd) | exact HB.out))) : w.heap.size ≤ gb105)); clear HB; have HB := n0_; have BK105 := n1_; have GW105 := n2_; have GE105 := n3_; clear n0_ n1_ n2_ n3_; clear hb hbox hg; obtain ⟨hcz5_0, hcz5_1, hcz5_2, hcz5_3, hcz5_4, hcz5_5, hcz5_6⟩ := Cs.cs7 BK105.out; obtain ⟨hfz5_0, hfz5_1, hfz5_2, hfz5_3, hfz5_4, hfz5_5⟩ := Cs.fz6 BK105.out; have hfz5_6 := blk_frozen BK105.out 6) | ((with_reducible refine gate_callee (f := 51) rfl ?_); refine goesL_ (some 10) rfl rfl Try.func51 (by kernel_rfl) rfl #[.agg #[.int .i64 a0_0, .int .i64 a0_1, .int .i64 a0_2, .int .i64 a0_3, .string a0_4, .string a0_5, .slice A0_6 l0_6.length c0_6], .int .i64 a1] rfl (by (try simp only [List.map_toArray, List.map_cons, List.map_nil]); first | done | rfl | (simp only [List.length_drop, List.length_take]; rfl)) ?_; (with_reducible refine (registrarref10_count.calls k a0_0 a0_1 a0_2 a0_3 a0_4 a0_5 _ _ l0_6 a1 t106 t107 _ ?side1 ?side2 A3.out).mono ?_); (case side1 => repeat (first | exact (Cs.cb HR0_6.out HB.out) | (with_reducible refine Cs.ca ?_ _) | (with_reducible refine Cs.cn ?_ _) | (with_reducible refine Cs.cd1 ?_))); (case side2 => exact HC0_6.out); rintro e w6 ⟨rfl, hb⟩; refine ⟨_, rfl, ?_⟩; have n0_ := Cs.am (Cs.kb (g := gb105) (o := .cells #[.int .i64 a0_0, .int .i64 a0_1, .int .i64 a0_2, .int .i64 a0_3, .string a0_4, .string a0_5, .slice A0_6 l0_6.length c0_6] 26 (0, 0)) (by (with_reducible repeat (first | refine Cs.kn ?_ _ | refine Cs.kd1 ?_ | refine Cs.ka ?_ _)); exact BK105.out) hb); have n1_ := Cs.am (Cs.bp (by repeat (first | (with_reducible first | exact HB.out | apply Cs.ba | apply Cs.bn | apply Cs.bd | refine Cs.bs ?_ GE105.out) | exact HB.out)) hb); clear BK105; clear HB; have BK105 := n0_; have HB := n1_; clear n0_ n1_; (try clear hb); (try clear hb2); (try clear hk); (try clear hi)))
  go_ret
  exact ⟨by first | rfl | (simp [errW_none, errW_some] <;> rfl) | (simp [*, errW_none, errW_some] <;> rfl), by repeat (first | (with_reducible first | exact HB.out | apply Cs.ba | apply Cs.bn | apply Cs.bd | refine Cs.bs ?_ GE105.out) | exact HB.out)⟩

-- NOT PRINTED: function 131 (expr_low_1)

/-! ### expr_low: function 102: by hand -/
/-- is a height at most so much, of the kids of something? -/
def expr_low.b : Nat → List S26 → Bool
  | 0, _ => false
  | m + 1, l => !(l.any (fun x => !(expr_low.b m x.f4)))
def expr_low.f (a0_0 a0_1 a0_2 a0_3 : Int) (a0_4 a0_5 : ByteArray) (l0_6 : List S26) (a1 : Int) : Option Bool := if -9223372036854775808 < a1 ∧ a1 ≤ 9223372036854775807 then some (expr_low.b a1.toNat l0_6) else none
theorem expr_low.laid (w : World) (o : Obj) (v : Value) (t : TypeId) : ((w.alloc o).alloc (.cells #[v] t)).cell? ⟨w.heap.size + 1, 0, none⟩ = some v := by
  have e : (w.alloc o).heap.size = w.heap.size + 1 := by simp
  rw [← e, World.cell?_alloc_new]
  simp
theorem expr_low.any_at {α : Type} {p : α → Bool} {l : List α} {i : Nat} (h0 : ∀ j x, j < i → l[j]? = some x → p x = false) (h1 : ∀ x, l[i]? = some x → p x = true) (hi : i ≤ l.length) : decide (0 ≤ (if i < l.length then (i : Int) else -1)) = l.any p := by
  by_cases h : i < l.length
  · rw [if_pos h]
    have hp := h1 l[i] (List.getElem?_eq_getElem h)
    have ha : l.any p = true := List.any_eq_true.2 ⟨l[i], List.getElem_mem h, hp⟩
    rw [ha]
    exact decide_eq_true (by omega)
  · rw [if_neg h]
    have ha : l.any p = false := by
      rw [Bool.eq_false_iff]
      intro ht
      obtain ⟨x, hx, hpx⟩ := List.any_eq_true.1 ht
      obtain ⟨j, hj, rfl⟩ := List.mem_iff_getElem.1 hx
      rw [h0 j l[j] (by omega) (List.getElem?_eq_getElem hj)] at hpx
      cases hpx
    rw [ha]
    rfl
set_option maxHeartbeats 8000000 in
set_option maxRecDepth 100000 in
theorem expr_low.index (gb : Nat) (p : S26 → Bool) (A0 : Option Addr) (c0 : Nat) (l0 : List S26) (w : World) (hr0 : Kd.C k26 w A0 l0.length l0) (hc0 : l0.length ≤ c0) (hp : ∀ (x : S26) (A : Option Addr) (c : Nat) (W : World), Below w.heap.size w W → Kd.C k26 W A x.f4.length x.f4 → x.f4.length ≤ c → Calls Try.prog 131 #[.agg #[.int .i64 x.f0, .int .i64 x.f1, .int .i64 x.f2.f0, .int .i64 x.f2.f1, .string x.f2.f2, .string x.f3, .slice A x.f4.length c], .pointer (some ⟨gb, 0, none⟩)] W fun e w' => e = .returned (.bool (p x)) ∧ Below W.heap.size W w') :
    Calls Try.prog 156 #[.slice A0 l0.length c0, .func (.func 131) #[] #[.pointer (some ⟨gb, 0, none⟩)]] w fun e w' => ∃ i : Nat, e = .returned (.int .i64 (if i < l0.length then (i : Int) else -1)) ∧ i ≤ l0.length ∧ (∀ j x, j < i → l0[j]? = some x → p x = false) ∧ (∀ x, l0[i]? = some x → p x = true) ∧ Below w.heap.size w w' := by
  have hu_ := Try.underlying26
  have HR0 := Aside0.mk hr0
  have HC0 := Aside0.mk hc0
  have HP := Aside0.mk hp
  have HM := Aside0.mk hr0.2.1
  clear hr0 hc0 hp
  have HB := Aside0.mk (Below.refl w.heap.size w)
  go_enter Try.func156, Try.ntmps156
  go_wp2
  go_loopw [8] (fun v8 wz => ∃ i : Nat, v8 = .int .i64 (i : Int) ∧ Aside0 (i ≤ l0.length) ∧ Aside0 (∀ j x, j < i → l0[j]? = some x → p x = false) ∧ Aside0 (Below w.heap.size w wz)) (fun v8 _ => l0.length - (intOf v8).toNat)
  case atStart => exact ⟨0, rfl, ⟨Nat.zero_le _⟩, ⟨fun j x h => absurd h (Nat.not_lt_zero _)⟩, HB⟩
  case round =>
    clear HB
    obtain ⟨i, rfl, HI, HA, HB⟩ := hrel
    by_cases hlt : i < l0.length
    · have d0 : decide ((i : Int) < (l0.length : Int)) = true := decide_eq_true (by omega)
      have d1 : decide (i < l0.length) = true := decide_eq_true hlt
      have HLT := Aside0.mk hlt
      have p0 : 0 ≤ (i : Int) := by omega
      have q0 : (i : Int) < (l0.length : Int) := by omega
      obtain ⟨ad, A6, c6, e0, h0, h1, h2, h3, h4, h5, h6, hl6, hg6⟩ := at_T26 HR0.out i p0 q0
      cases e0
      simp only [Int.toNat_natCast] at h0 h1 h2 h3 h4 h5 h6
      have ex : rd_T26 l0 (i : Int) = l0[i] := by simp [rd_T26, List.getD_eq_getElem?_getD, hlt]
      have HX := Aside0.mk (List.getElem?_eq_getElem hlt)
      rw [ex] at h0 h1 h2 h3 h4 h5 h6 hl6 hg6
      generalize l0[i] = x at HX h0 h1 h2 h3 h4 h5 h6 hl6 hg6
      clear ex hlt
      replace h0 := (HB.out.cell (World.block_lt_of_cell? w _ h0)).trans h0
      replace h1 := (HB.out.cell (World.block_lt_of_cell? w _ h1)).trans h1
      replace h2 := (HB.out.cell (World.block_lt_of_cell? w _ h2)).trans h2
      replace h3 := (HB.out.cell (World.block_lt_of_cell? w _ h3)).trans h3
      replace h4 := (HB.out.cell (World.block_lt_of_cell? w _ h4)).trans h4
      replace h5 := (HB.out.cell (World.block_lt_of_cell? w _ h5)).trans h5
      replace h6 := (HB.out.cell (World.block_lt_of_cell? w _ h6)).trans h6
      replace p0 := eq_true p0
      replace q0 := eq_true q0
      have hcall := HP.out x A6 c6 wr HB.out (Kd.C_below hg6 HB.out) hl6
      have HG6 := Aside0.mk hg6
      have HL6 := Aside0.mk hl6
      clear hg6 hl6
      have hw : wrap64 ((i : Int) + 1) = ((i + 1 : Nat) : Int) := by have h1 := HLT.out; have h2 := HM.out; unfold wrap64; omega
      have HW := Aside0.mk hw
      clear hw
      by_cases hpx : p x = true
      · rw [hpx] at hcall
        have HPX := Aside0.mk hpx
        clear hpx
        go_wp2_with (first | (go_at_call 131; (with_reducible refine hcall.mono ?_); rintro e w8 ⟨rfl, hb⟩; have n0_ := Aside0.mk (below_step (by repeat (first | (with_reducible first | exact HB.out | apply below_alloc | apply pw_below_drewN | apply below_drew1) | exact HB.out)) hb); clear HB; have HB := n0_; clear n0_; (try clear hb)))
        go_ret
        exact ⟨i, (by rw [if_pos HLT.out]; rfl), HI.out, HA.out, (fun y hy => by rw [HX.out] at hy; cases hy; exact HPX.out), HB.out⟩
      · replace hpx := Bool.eq_false_iff.mpr hpx
        rw [hpx] at hcall
        have HPX := Aside0.mk hpx
        clear hpx
        go_wp2_with (first | (go_at_call 131; (with_reducible refine hcall.mono ?_); rintro e w8 ⟨rfl, hb⟩; have n0_ := Aside0.mk (below_step (by repeat (first | (with_reducible first | exact HB.out | apply below_alloc | apply pw_below_drewN | apply below_drew1) | exact HB.out)) hb); clear HB; have HB := n0_; clear n0_; (try clear hb)))
        go_roundw
        case rel => exact ⟨i + 1, congrArg (Value.int .i64) HW.out, ⟨HLT.out⟩, ⟨(fun j y hj hy => by rcases Nat.lt_or_eq_of_le (Nat.le_of_lt_succ hj) with h | h; exact HA.out j y h hy; subst h; rw [HX.out] at hy; cases hy; exact HPX.out)⟩, HB⟩
        case measure => have h1 := HLT.out; rw [HW.out]; simp only [intOf, Int.toNat_natCast]; omega
    · have d0 : decide ((i : Int) < (l0.length : Int)) = false := decide_eq_false (by omega)
      have d1 : decide (i < l0.length) = false := decide_eq_false hlt
      have HLT := Aside0.mk hlt
      clear hlt
      go_wp2
      go_ret
      exact ⟨i, (by rw [if_neg HLT.out]; rfl), HI.out, HA.out, (fun y hy => by rw [List.getElem?_eq_none (Nat.le_of_not_lt HLT.out)] at hy; cases hy), HB.out⟩
set_option maxHeartbeats 8000000 in
set_option maxRecDepth 100000 in
theorem expr_low.contains (gb : Nat) (p : S26 → Bool) (A0 : Option Addr) (c0 : Nat) (l0 : List S26) (w : World) (hr0 : Kd.C k26 w A0 l0.length l0) (hc0 : l0.length ≤ c0) (hp : ∀ (x : S26) (A : Option Addr) (c : Nat) (W : World), Below w.heap.size w W → Kd.C k26 W A x.f4.length x.f4 → x.f4.length ≤ c → Calls Try.prog 131 #[.agg #[.int .i64 x.f0, .int .i64 x.f1, .int .i64 x.f2.f0, .int .i64 x.f2.f1, .string x.f2.f2, .string x.f3, .slice A x.f4.length c], .pointer (some ⟨gb, 0, none⟩)] W fun e w' => e = .returned (.bool (p x)) ∧ Below W.heap.size W w') :
    Calls Try.prog 130 #[.slice A0 l0.length c0, .func (.func 131) #[] #[.pointer (some ⟨gb, 0, none⟩)]] w fun e w' => e = .returned (.bool (l0.any p)) ∧ Below w.heap.size w w' := by
  have hcall := expr_low.index gb p A0 c0 l0 w hr0 hc0 hp
  clear hp hr0 hc0
  go_enter Try.func130, Try.ntmps130
  go_wp2_with (first | (go_at_call 156; (with_reducible refine hcall.mono ?_); rintro e w8 ⟨i, rfl, hi, h0, h1, hb⟩; have HB := Aside0.mk hb; have HE : decide (0 ≤ (if i < l0.length then (i : Int) else -1)) = l0.any p := expr_low.any_at h0 h1 hi; have HEA := Aside0.mk HE; clear hb h0 h1 hi HE; generalize (if i < l0.length then (i : Int) else -1) = r at HEA ⊢))
  try rw [HEA.out]
  go_ret
  exact ⟨by first | rfl | (rw [HEA.out]), HB.out⟩
set_option maxHeartbeats 8000000 in
set_option maxRecDepth 100000 in
theorem expr_low.one (gb : Nat) (a1 : Int) (b : Bool) (x : S26) (A : Option Addr) (c : Nat) (w : World) (hcap : w.cell? ⟨gb, 0, none⟩ = some (.int .i64 a1)) (IH : ∀ W, Below w.heap.size w W → Calls Try.prog 102 #[.agg #[.int .i64 x.f0, .int .i64 x.f1, .int .i64 x.f2.f0, .int .i64 x.f2.f1, .string x.f2.f2, .string x.f3, .slice A x.f4.length c], .int .i64 (wrap64 (a1 - 1))] W fun e w' => e = .returned (.bool b) ∧ Below W.heap.size W w') :
    Calls Try.prog 131 #[.agg #[.int .i64 x.f0, .int .i64 x.f1, .int .i64 x.f2.f0, .int .i64 x.f2.f1, .string x.f2.f2, .string x.f3, .slice A x.f4.length c], .pointer (some ⟨gb, 0, none⟩)] w fun e w' => e = .returned (.bool (!b)) ∧ Below w.heap.size w w' := by
  have hu26 := Try.underlying26
  have HP := Aside0.mk IH
  have HCAP := Aside0.mk hcap
  clear IH hcap
  have HB := Aside0.mk (Below.refl w.heap.size w)
  go_enter Try.func131, Try.ntmps131
  go_wp2_with (first | ((with_reducible refine gate_dst (N := 2) rfl ?_); refine box_event ?hg (N := 2) ?hd (cs := #[.int .i64 x.f0, .int .i64 x.f1, .int .i64 x.f2.f0, .int .i64 x.f2.f1, .string x.f2.f2, .string x.f3, .slice A x.f4.length c]) (t := 26) ?hr ?_; (case hd => rfl); (case hg => rfl); (case hr => first | (go_simp; done) | (go_simp; rfl)); intro gbx hg w5 hbox hb; have n0_ := Aside0.mk (below_step (by repeat (first | (with_reducible first | exact HB.out | apply below_alloc | apply pw_below_drewN | apply below_drew1) | exact HB.out)) hb); have n1_ := Aside0.mk hbox; clear HB; have HB := n0_; have BKgbx := n1_; clear n0_ n1_; have hcp := (HB.out.cell (World.block_lt_of_cell? w _ HCAP.out)).trans HCAP.out; have hcz_0 := blk_cell BKgbx.out 0; have hcz_1 := blk_cell BKgbx.out 1; have hcz_2 := blk_cell BKgbx.out 2; have hcz_3 := blk_cell BKgbx.out 3; have hcz_4 := blk_cell BKgbx.out 4; have hcz_5 := blk_cell BKgbx.out 5; have hcz_6 := blk_cell BKgbx.out 6; simp only [List.getElem?_toArray, List.getElem?_cons_zero, List.getElem?_cons_succ] at hcz_0 hcz_1 hcz_2 hcz_3 hcz_4 hcz_5 hcz_6; clear hb hbox hg) | (go_at_call 102; (with_reducible refine (HP.out _ HB.out).mono ?_); rintro e w9 ⟨rfl, hb⟩; have n0_ := Aside0.mk (below_step (by repeat (first | (with_reducible first | exact HB.out | apply below_alloc | apply pw_below_drewN | apply below_drew1) | exact HB.out)) hb); clear HB; have HB := n0_; clear n0_; (try clear hb)))
  go_ret
  exact ⟨rfl, HB.out⟩
set_option maxHeartbeats 8000000 in
set_option maxRecDepth 100000 in
theorem expr_low.all : ∀ (m : Nat) (a0_0 a0_1 a0_2 a0_3 : Int) (a0_4 a0_5 : ByteArray) (A0_6 : Option Addr) (c0_6 : Nat) (l0_6 : List S26) (a1 : Int) (w : World) (hr0_6 : Kd.C k26 w A0_6 l0_6.length l0_6) (hc0_6 : l0_6.length ≤ c0_6) (hm : a1.toNat = m) (hin : -9223372036854775808 < a1 ∧ a1 ≤ 9223372036854775807),
    Calls Try.prog 102 #[.agg #[.int .i64 a0_0, .int .i64 a0_1, .int .i64 a0_2, .int .i64 a0_3, .string a0_4, .string a0_5, .slice A0_6 l0_6.length c0_6], .int .i64 a1] w fun e w' => e = .returned (.bool (expr_low.b m l0_6)) ∧ Below w.heap.size w w' := by
  intro m
  induction m with
  | zero =>
    intro a0_0 a0_1 a0_2 a0_3 a0_4 a0_5 A0_6 c0_6 l0_6 a1 w hr0_6 hc0_6 hm hin
    have hu26 := Try.underlying26
    have HB := Aside0.mk (Below.refl w.heap.size w)
    have d0 : decide (0 < a1) = false := decide_eq_false (by omega)
    clear hr0_6 hc0_6
    go_enter Try.func102, Try.ntmps102
    go_wp2_with (first | ((with_reducible refine gate_dst (N := 2) rfl ?_); refine box_event ?hg (N := 2) ?hd (cs := #[.int .i64 a0_0, .int .i64 a0_1, .int .i64 a0_2, .int .i64 a0_3, .string a0_4, .string a0_5, .slice A0_6 l0_6.length c0_6]) (t := 26) ?hr ?_; (case hd => rfl); (case hg => rfl); (case hr => first | (go_simp; done) | (go_simp; rfl)); intro gbx hg w5 hbox hb; have n0_ := Aside0.mk (below_step (by repeat (first | (with_reducible first | exact HB.out | apply below_alloc | apply pw_below_drewN | apply below_drew1) | exact HB.out)) hb); have n1_ := Aside0.mk hbox; clear HB; have HB := n0_; have BKgbx := n1_; clear n0_ n1_; have hcy := World.cell?_alloc_new w5 (#[.int .i64 a1]) 3 0; simp only [List.getElem?_toArray, List.getElem?_cons_zero] at hcy; clear hb hbox hg))
    go_ret
    exact ⟨rfl, (by repeat (first | (with_reducible first | exact HB.out | apply below_alloc | apply pw_below_drewN | apply below_drew1) | exact HB.out))⟩
  | succ m ih =>
    intro a0_0 a0_1 a0_2 a0_3 a0_4 a0_5 A0_6 c0_6 l0_6 a1 w hr0_6 hc0_6 hm hin
    have hu26 := Try.underlying26
    have HR := Aside0.mk hr0_6
    have HC := Aside0.mk hc0_6
    have HB := Aside0.mk (Below.refl w.heap.size w)
    have d0 : decide (0 < a1) = true := decide_eq_true (by omega)
    have hw1 : wrap64 (a1 - 1) = a1 - 1 := by unfold wrap64; omega
    have hm1 : (a1 - 1).toNat = m := by omega
    have hin1 : -9223372036854775808 < a1 - 1 ∧ a1 - 1 ≤ 9223372036854775807 := by omega
    have HIH := Aside0.mk (fun (x : S26) (A : Option Addr) (c : Nat) (W : World) (h1 : Kd.C k26 W A x.f4.length x.f4) (h2 : x.f4.length ≤ c) => ih x.f0 x.f1 x.f2.f0 x.f2.f1 x.f2.f2 x.f3 A c x.f4 (a1 - 1) W h1 h2 hm1 hin1)
    have HW1 := Aside0.mk hw1
    have hb6 : Below w.heap.size w ((w.alloc (.cells #[.int .i64 a0_0, .int .i64 a0_1, .int .i64 a0_2, .int .i64 a0_3, .string a0_4, .string a0_5, .slice A0_6 l0_6.length c0_6] 26)).alloc (.cells #[.int .i64 a1] 3)) := below_alloc (below_alloc (Below.refl _ _) _) _
    have hcy : ((w.alloc (.cells #[.int .i64 a0_0, .int .i64 a0_1, .int .i64 a0_2, .int .i64 a0_3, .string a0_4, .string a0_5, .slice A0_6 l0_6.length c0_6] 26)).alloc (.cells #[.int .i64 a1] 3)).cell? ⟨w.heap.size + 1, 0, none⟩ = some (.int .i64 a1) := expr_low.laid _ _ _ _
    have HB6 := Aside0.mk hb6
    have HCY := Aside0.mk hcy
    have hcall := expr_low.contains (w.heap.size + 1) (fun x => !(expr_low.b m x.f4)) A0_6 c0_6 l0_6 _ (Kd.C_below HR.out HB6.out) HC.out (fun x A c W hW h1 h2 => expr_low.one (w.heap.size + 1) a1 (expr_low.b m x.f4) x A c W ((hW.cell (World.block_lt_of_cell? _ _ HCY.out)).trans HCY.out) (fun W2 hW2 => by rw [HW1.out]; exact HIH.out x A c W2 (Kd.C_below h1 hW2) h2))
    have HCALL := Aside0.mk hcall
    clear hcall hb6 hcy
    clear hr0_6 hc0_6 ih hw1 hm1 hin1 hin hm
    go_enter Try.func102, Try.ntmps102
    go_wp2_with (first | (go_at_call 130; (with_reducible refine HCALL.out.mono ?_); rintro e w9 ⟨rfl, hb⟩; have n0_ := Aside0.mk (below_step HB6.out hb); clear HB; have HB := n0_; clear n0_; (try clear hb)))
    go_ret
    exact ⟨rfl, HB.out⟩
set_option maxHeartbeats 8000000 in
set_option maxRecDepth 100000 in
theorem expr_low.calls (a0_0 : Int) (a0_1 : Int) (a0_2 : Int) (a0_3 : Int) (a0_4 : ByteArray) (a0_5 : ByteArray) (A0_6 : Option Addr) (c0_6 : Nat) (l0_6 : List (S26)) (a1 : Int) (r : Bool) (w : World) (hr0_6 : Kd.C k26 w A0_6 l0_6.length l0_6) (hc0_6 : l0_6.length ≤ c0_6) (h : expr_low.f a0_0 a0_1 a0_2 a0_3 a0_4 a0_5 l0_6 a1 = some r) :
    Calls Try.prog 102 #[.agg #[.int .i64 a0_0, .int .i64 a0_1, .int .i64 a0_2, .int .i64 a0_3, .string a0_4, .string a0_5, .slice A0_6 l0_6.length c0_6], .int .i64 a1] w fun e w' => e = .returned (.bool r) ∧ Below w.heap.size w w' := by
  unfold expr_low.f at h
  by_cases hin : -9223372036854775808 < a1 ∧ a1 ≤ 9223372036854775807
  · rw [if_pos hin] at h
    obtain rfl := Option.some.inj h
    exact expr_low.all a1.toNat a0_0 a0_1 a0_2 a0_3 a0_4 a0_5 A0_6 c0_6 l0_6 a1 w hr0_6 hc0_6 rfl hin
  · rw [if_neg hin] at h
    exact absurd h (by simp)

/-! ### lex_small: function 166 -/
def lex_small.f (a0 : Int) : Option (Bool) := if a0 ≥ 97 then (some (decide (a0 ≤ 122))) else (some false)
set_option maxHeartbeats 8000000 in
set_option maxRecDepth 100000 in
theorem lex_small.calls (a0 : Int) (r : Bool) (w : World) (h : lex_small.f a0 = some r) :
    Calls Try.prog 166 #[.int .u8 a0] w fun e w' => e = .returned (.bool r) ∧ Drawn0 w w' := by
  have H : (if a0 ≥ 97 then (some (decide (a0 ≤ 122))) else (some false)) = some r := h
  clear h
  by_cases c2 : a0 ≥ 97
  · rw [if_pos c2] at H
    have c2b0 : decide (97 ≤ a0) = true := decide_eq_true c2
    clear c2
    obtain rfl := Option.some.inj H
    go_enter Try.func166, Try.ntmps166
    go_wp2
    go_ret
    exact ⟨by first | rfl | (simp; done) | (simp [*]; done), by repeat (first | exact Drawn0.refl _ | apply Drawn0.step)⟩
  · rw [if_neg c2] at H
    have c2b0 : decide (97 ≤ a0) = false := decide_eq_false c2
    clear c2
    obtain rfl := Option.some.inj H
    go_enter Try.func166, Try.ntmps166
    go_wp2
    go_ret
    exact ⟨by first | rfl | (simp; done) | (simp [*]; done), by repeat (first | exact Drawn0.refl _ | apply Drawn0.step)⟩

/-! ### lex_digit: function 169 -/
def lex_digit.f (a0 : Int) : Option (Bool) := if a0 ≥ 48 then (some (decide (a0 ≤ 57))) else (some false)
set_option maxHeartbeats 8000000 in
set_option maxRecDepth 100000 in
theorem lex_digit.calls (a0 : Int) (r : Bool) (w : World) (h : lex_digit.f a0 = some r) :
    Calls Try.prog 169 #[.int .u8 a0] w fun e w' => e = .returned (.bool r) ∧ Drawn0 w w' := by
  have H : (if a0 ≥ 48 then (some (decide (a0 ≤ 57))) else (some false)) = some r := h
  clear h
  by_cases c2 : a0 ≥ 48
  · rw [if_pos c2] at H
    have c2b0 : decide (48 ≤ a0) = true := decide_eq_true c2
    clear c2
    obtain rfl := Option.some.inj H
    go_enter Try.func169, Try.ntmps169
    go_wp2
    go_ret
    exact ⟨by first | rfl | (simp; done) | (simp [*]; done), by repeat (first | exact Drawn0.refl _ | apply Drawn0.step)⟩
  · rw [if_neg c2] at H
    have c2b0 : decide (48 ≤ a0) = false := decide_eq_false c2
    clear c2
    obtain rfl := Option.some.inj H
    go_enter Try.func169, Try.ntmps169
    go_wp2
    go_ret
    exact ⟨by first | rfl | (simp; done) | (simp [*]; done), by repeat (first | exact Drawn0.refl _ | apply Drawn0.step)⟩

/-! ### lex_one_1: function 168 -/
def lex_one_1.f (a0 : Int) : Option (Bool) := (lex_small.f a0).bind fun t109 => (if t109 = true then (some true) else ((lex_digit.f a0).bind fun t110 => (if t110 = true then (some true) else (some (a0 == 95)))))
set_option maxHeartbeats 8000000 in
set_option maxRecDepth 100000 in
theorem lex_one_1.calls (a0 : Int) (r : Bool) (w : World) (h : lex_one_1.f a0 = some r) :
    Calls Try.prog 168 #[.int .u8 a0] w fun e w' => e = .returned (.bool r) ∧ Drawn0 w w' := by
  have H : ((lex_small.f a0).bind fun t109 => (if t109 = true then (some true) else ((lex_digit.f a0).bind fun t110 => (if t110 = true then (some true) else (some (a0 == 95)))))) = some r := h
  clear h
  replace H := Option.bind_eq_some_iff.mp H
  obtain ⟨t109, A20, H⟩ := H
  replace H : (if t109 = true then (some true) else ((lex_digit.f a0).bind fun t110 => (if t110 = true then (some true) else (some (a0 == 95))))) = some r := H
  have A2 := Cs.am A20
  clear A20
  by_cases c3 : t109 = true
  · subst c3
    have H1 : (some true) = some r := by rw [if_pos rfl] at H; exact H
    clear H
    have H := H1
    clear H1
    obtain rfl := Option.some.inj H
    go_enter Try.func168, Try.ntmps168
    go_wp2_with (first | ((with_reducible refine gate_callee (f := 166) rfl ?_); refine goesL_ (some 4) rfl rfl Try.func166 (by kernel_rfl) rfl #[.int .u8 a0] rfl (by (try simp only [List.map_toArray, List.map_cons, List.map_nil]); first | done | rfl | (simp only [List.length_drop, List.length_take]; rfl)) ?_; (with_reducible refine (lex_small.calls a0 true _ A2.out).mono ?_); rintro e w' ⟨rfl, ⟨nd, rfl⟩⟩; refine ⟨_, rfl, ?_⟩))
    go_ret
    exact ⟨by first | rfl | (simp; done) | (simp [*]; done), by repeat (first | exact Drawn0.refl _ | apply Drawn0.step)⟩
  · replace c3 := Bool.eq_false_iff.mpr c3
    subst c3
    have H1 : ((lex_digit.f a0).bind fun t110 => (if t110 = true then (some true) else (some (a0 == 95)))) = some r := by rw [if_neg (show ¬ (false = true) by decide)] at H; exact H
    clear H
    have H := H1
    clear H1
    replace H := Option.bind_eq_some_iff.mp H
    obtain ⟨t110, A40, H⟩ := H
    replace H : (if t110 = true then (some true) else (some (a0 == 95))) = some r := H
    have A4 := Cs.am A40
    clear A40
    by_cases c5 : t110 = true
    · subst c5
      have H1 : (some true) = some r := by rw [if_pos rfl] at H; exact H
      clear H
      have H := H1
      clear H1
      obtain rfl := Option.some.inj H
      go_enter Try.func168, Try.ntmps168
      go_wp2_with (first | ((with_reducible refine gate_callee (f := 166) rfl ?_); refine goesL_ (some 4) rfl rfl Try.func166 (by kernel_rfl) rfl #[.int .u8 a0] rfl (by (try simp only [List.map_toArray, List.map_cons, List.map_nil]); first | done | rfl | (simp only [List.length_drop, List.length_take]; rfl)) ?_; (with_reducible refine (lex_small.calls a0 false _ A2.out).mono ?_); rintro e w' ⟨rfl, ⟨nd, rfl⟩⟩; refine ⟨_, rfl, ?_⟩) | (go_at_call 169; (with_reducible refine (lex_digit.calls a0 true _ A4.out).mono ?_); rintro e w' ⟨rfl, ⟨nd, rfl⟩⟩))
      go_ret
      exact ⟨by first | rfl | (simp; done) | (simp [*]; done), by repeat (first | exact Drawn0.refl _ | apply Drawn0.step)⟩
    · replace c5 := Bool.eq_false_iff.mpr c5
      subst c5
      have H1 : (some (a0 == 95)) = some r := by rw [if_neg (show ¬ (false = true) by decide)] at H; exact H
      clear H
      have H := H1
      clear H1
      obtain rfl := Option.some.inj H
      go_enter Try.func168, Try.ntmps168
      go_wp2_with (first | ((with_reducible refine gate_callee (f := 166) rfl ?_); refine goesL_ (some 4) rfl rfl Try.func166 (by kernel_rfl) rfl #[.int .u8 a0] rfl (by (try simp only [List.map_toArray, List.map_cons, List.map_nil]); first | done | rfl | (simp only [List.length_drop, List.length_take]; rfl)) ?_; (with_reducible refine (lex_small.calls a0 false _ A2.out).mono ?_); rintro e w' ⟨rfl, ⟨nd, rfl⟩⟩; refine ⟨_, rfl, ?_⟩) | (go_at_call 169; (with_reducible refine (lex_digit.calls a0 false _ A4.out).mono ?_); rintro e w' ⟨rfl, ⟨nd, rfl⟩⟩))
      go_ret
      exact ⟨by first | rfl | (simp; done) | (simp [*]; done), by repeat (first | exact Drawn0.refl _ | apply Drawn0.step)⟩

/-! ### lex_capital: function 171 -/
def lex_capital.f (a0 : Int) : Option (Bool) := if a0 ≥ 65 then (some (decide (a0 ≤ 90))) else (some false)
set_option maxHeartbeats 8000000 in
set_option maxRecDepth 100000 in
theorem lex_capital.calls (a0 : Int) (r : Bool) (w : World) (h : lex_capital.f a0 = some r) :
    Calls Try.prog 171 #[.int .u8 a0] w fun e w' => e = .returned (.bool r) ∧ Drawn0 w w' := by
  have H : (if a0 ≥ 65 then (some (decide (a0 ≤ 90))) else (some false)) = some r := h
  clear h
  by_cases c2 : a0 ≥ 65
  · rw [if_pos c2] at H
    have c2b0 : decide (65 ≤ a0) = true := decide_eq_true c2
    clear c2
    obtain rfl := Option.some.inj H
    go_enter Try.func171, Try.ntmps171
    go_wp2
    go_ret
    exact ⟨by first | rfl | (simp; done) | (simp [*]; done), by repeat (first | exact Drawn0.refl _ | apply Drawn0.step)⟩
  · rw [if_neg c2] at H
    have c2b0 : decide (65 ≤ a0) = false := decide_eq_false c2
    clear c2
    obtain rfl := Option.some.inj H
    go_enter Try.func171, Try.ntmps171
    go_wp2
    go_ret
    exact ⟨by first | rfl | (simp; done) | (simp [*]; done), by repeat (first | exact Drawn0.refl _ | apply Drawn0.step)⟩

/-! ### lex_glued: function 183 -/
def lex_glued.f (a0 : Int) : Option (Bool) := (lex_small.f a0).bind fun t111 => (if t111 = true then (some true) else ((lex_capital.f a0).bind fun t112 => (if t112 = true then (some true) else ((lex_digit.f a0).bind fun t113 => (if t113 = true then (some true) else (if a0 = 95 then (some true) else (some (a0 == 36))))))))
set_option maxHeartbeats 8000000 in
set_option maxRecDepth 100000 in
theorem lex_glued.calls (a0 : Int) (r : Bool) (w : World) (h : lex_glued.f a0 = some r) :
    Calls Try.prog 183 #[.int .u8 a0] w fun e w' => e = .returned (.bool r) ∧ Drawn0 w w' := by
  have H : ((lex_small.f a0).bind fun t111 => (if t111 = true then (some true) else ((lex_capital.f a0).bind fun t112 => (if t112 = true then (some true) else ((lex_digit.f a0).bind fun t113 => (if t113 = true then (some true) else (if a0 = 95 then (some true) else (some (a0 == 36))))))))) = some r := h
  clear h
  replace H := Option.bind_eq_some_iff.mp H
  obtain ⟨t111, A20, H⟩ := H
  replace H : (if t111 = true then (some true) else ((lex_capital.f a0).bind fun t112 => (if t112 = true then (some true) else ((lex_digit.f a0).bind fun t113 => (if t113 = true then (some true) else (if a0 = 95 then (some true) else (some (a0 == 36)))))))) = some r := H
  have A2 := Cs.am A20
  clear A20
  by_cases c3 : t111 = true
  · subst c3
    have H1 : (some true) = some r := by rw [if_pos rfl] at H; exact H
    clear H
    have H := H1
    clear H1
    obtain rfl := Option.some.inj H
    go_enter Try.func183, Try.ntmps183
    go_wp2_with (first | ((with_reducible refine gate_callee (f := 166) rfl ?_); refine goesL_ (some 4) rfl rfl Try.func166 (by kernel_rfl) rfl #[.int .u8 a0] rfl (by (try simp only [List.map_toArray, List.map_cons, List.map_nil]); first | done | rfl | (simp only [List.length_drop, List.length_take]; rfl)) ?_; (with_reducible refine (lex_small.calls a0 true _ A2.out).mono ?_); rintro e w' ⟨rfl, ⟨nd, rfl⟩⟩; refine ⟨_, rfl, ?_⟩))
    go_ret
    exact ⟨by first | rfl | (simp; done) | (simp [*]; done), by repeat (first | exact Drawn0.refl _ | apply Drawn0.step)⟩
  · replace c3 := Bool.eq_false_iff.mpr c3
    subst c3
    have H1 : ((lex_capital.f a0).bind fun t112 => (if t112 = true then (some true) else ((lex_digit.f a0).bind fun t113 => (if t113 = true then (some true) else (if a0 = 95 then (some true) else (some (a0 == 36))))))) = some r := by rw [if_neg (show ¬ (false = true) by decide)] at H; exact H
    clear H
    have H := H1
    clear H1
    replace H := Option.bind_eq_some_iff.mp H
    obtain ⟨t112, A40, H⟩ := H
    replace H : (if t112 = true then (some true) else ((lex_digit.f a0).bind fun t113 => (if t113 = true then (some true) else (if a0 = 95 then (some true) else (some (a0 == 36)))))) = some r := H
    have A4 := Cs.am A40
    clear A40
    by_cases c5 : t112 = true
    · subst c5
      have H1 : (some true) = some r := by rw [if_pos rfl] at H; exact H
      clear H
      have H := H1
      clear H1
      obtain rfl := Option.some.inj H
      go_enter Try.func183, Try.ntmps183
      go_wp2_with (first | ((with_reducible refine gate_callee (f := 166) rfl ?_); refine goesL_ (some 4) rfl rfl Try.func166 (by kernel_rfl) rfl #[.int .u8 a0] rfl (by (try simp only [List.map_toArray, List.map_cons, List.map_nil]); first | done | rfl | (simp only [List.length_drop, List.length_take]; rfl)) ?_; (with_reducible refine (lex_small.calls a0 false _ A2.out).mono ?_); rintro e w' ⟨rfl, ⟨nd, rfl⟩⟩; refine ⟨_, rfl, ?_⟩) | (go_at_call 171; (with_reducible refine (lex_capital.calls a0 true _ A4.out).mono ?_); rintro e w' ⟨rfl, ⟨nd, rfl⟩⟩))
      go_ret
      exact ⟨by first | rfl | (simp; done) | (simp [*]; done), by repeat (first | exact Drawn0.refl _ | apply Drawn0.step)⟩
    · replace c5 := Bool.eq_false_iff.mpr c5
      subst c5
      have H1 : ((lex_digit.f a0).bind fun t113 => (if t113 = true then (some true) else (if a0 = 95 then (some true) else (some (a0 == 36))))) = some r := by rw [if_neg (show ¬ (false = true) by decide)] at H; exact H
      clear H
      have H := H1
      clear H1
      replace H := Option.bind_eq_some_iff.mp H
      obtain ⟨t113, A60, H⟩ := H
      replace H : (if t113 = true then (some true) else (if a0 = 95 then (some true) else (some (a0 == 36)))) = some r := H
      have A6 := Cs.am A60
      clear A60
      by_cases c7 : t113 = true
      · subst c7
        have H1 : (some true) = some r := by rw [if_pos rfl] at H; exact H
        clear H
        have H := H1
        clear H1
        obtain rfl := Option.some.inj H
        go_enter Try.func183, Try.ntmps183
        go_wp2_with (first | ((with_reducible refine gate_callee (f := 166) rfl ?_); refine goesL_ (some 4) rfl rfl Try.func166 (by kernel_rfl) rfl #[.int .u8 a0] rfl (by (try simp only [List.map_toArray, List.map_cons, List.map_nil]); first | done | rfl | (simp only [List.length_drop, List.length_take]; rfl)) ?_; (with_reducible refine (lex_small.calls a0 false _ A2.out).mono ?_); rintro e w' ⟨rfl, ⟨nd, rfl⟩⟩; refine ⟨_, rfl, ?_⟩) | (go_at_call 171; (with_reducible refine (lex_capital.calls a0 false _ A4.out).mono ?_); rintro e w' ⟨rfl, ⟨nd, rfl⟩⟩) | (go_at_call 169; (with_reducible refine (lex_digit.calls a0 true _ A6.out).mono ?_); rintro e w' ⟨rfl, ⟨nd, rfl⟩⟩))
        go_ret
        exact ⟨by first | rfl | (simp; done) | (simp [*]; done), by repeat (first | exact Drawn0.refl _ | apply Drawn0.step)⟩
      · replace c7 := Bool.eq_false_iff.mpr c7
        subst c7
        have H1 : (if a0 = 95 then (some true) else (some (a0 == 36))) = some r := by rw [if_neg (show ¬ (false = true) by decide)] at H; exact H
        clear H
        have H := H1
        clear H1
        by_cases c8 : a0 = 95
        · rw [if_pos c8] at H
          have c8b0 : (a0 == 95) = true := beq_iff_eq.mpr c8
          have c8b1 : (a0 != 95) = false := bne_eq_false_iff_eq.mpr c8
          clear c8
          obtain rfl := Option.some.inj H
          go_enter Try.func183, Try.ntmps183
          go_wp2_with (first | ((with_reducible refine gate_callee (f := 166) rfl ?_); refine goesL_ (some 4) rfl rfl Try.func166 (by kernel_rfl) rfl #[.int .u8 a0] rfl (by (try simp only [List.map_toArray, List.map_cons, List.map_nil]); first | done | rfl | (simp only [List.length_drop, List.length_take]; rfl)) ?_; (with_reducible refine (lex_small.calls a0 false _ A2.out).mono ?_); rintro e w' ⟨rfl, ⟨nd, rfl⟩⟩; refine ⟨_, rfl, ?_⟩) | (go_at_call 171; (with_reducible refine (lex_capital.calls a0 false _ A4.out).mono ?_); rintro e w' ⟨rfl, ⟨nd, rfl⟩⟩) | (go_at_call 169; (with_reducible refine (lex_digit.calls a0 false _ A6.out).mono ?_); rintro e w' ⟨rfl, ⟨nd, rfl⟩⟩))
          go_ret
          exact ⟨by first | rfl | (simp; done) | (simp [*]; done), by repeat (first | exact Drawn0.refl _ | apply Drawn0.step)⟩
        · rw [if_neg c8] at H
          have c8b0 : (a0 == 95) = false := beq_eq_false_iff_ne.mpr c8
          have c8b1 : (a0 != 95) = true := bne_iff_ne.mpr c8
          obtain rfl := Option.some.inj H
          go_enter Try.func183, Try.ntmps183
          go_wp2_with (first | ((with_reducible refine gate_callee (f := 166) rfl ?_); refine goesL_ (some 4) rfl rfl Try.func166 (by kernel_rfl) rfl #[.int .u8 a0] rfl (by (try simp only [List.map_toArray, List.map_cons, List.map_nil]); first | done | rfl | (simp only [List.length_drop, List.length_take]; rfl)) ?_; (with_reducible refine (lex_small.calls a0 false _ A2.out).mono ?_); rintro e w' ⟨rfl, ⟨nd, rfl⟩⟩; refine ⟨_, rfl, ?_⟩) | (go_at_call 171; (with_reducible refine (lex_capital.calls a0 false _ A4.out).mono ?_); rintro e w' ⟨rfl, ⟨nd, rfl⟩⟩) | (go_at_call 169; (with_reducible refine (lex_digit.calls a0 false _ A6.out).mono ?_); rintro e w' ⟨rfl, ⟨nd, rfl⟩⟩))
          go_ret
          exact ⟨by first | rfl | (simp; done) | (simp [*]; done), by repeat (first | exact Drawn0.refl _ | apply Drawn0.step)⟩

/-! ### lex_alone: function 170 -/
def lex_alone.f (a0 : ByteArray) (a1 : Int) : Option (Int) := if a1 < (a0.size : Int) then (if 0 ≤ a1 then ((lex_glued.f (bt a0 a1)).bind fun t114 => (if t114 = true then (some 0) else (some a1))) else (none)) else (some a1)
set_option maxHeartbeats 8000000 in
set_option maxRecDepth 100000 in
theorem lex_alone.calls (a0 : ByteArray) (a1 : Int) (r : Int) (w : World) (h : lex_alone.f a0 a1 = some r) :
    Calls Try.prog 170 #[.string a0, .int .i64 a1] w fun e w' => e = .returned (.int .i64 r) ∧ Drawn0 w w' := by
  have H : (if a1 < (a0.size : Int) then (if 0 ≤ a1 then ((lex_glued.f (bt a0 a1)).bind fun t114 => (if t114 = true then (some 0) else (some a1))) else (none)) else (some a1)) = some r := h
  clear h
  by_cases c3 : a1 < (a0.size : Int)
  · rw [if_pos c3] at H
    have c3b0 : decide (a1 < (a0.size : Int)) = true := decide_eq_true c3
    clear c3
    by_cases c4 : 0 ≤ a1
    · rw [if_pos c4] at H
      have c4b0 : decide (0 ≤ a1) = true := decide_eq_true c4
      clear c4
      replace H := Option.bind_eq_some_iff.mp H
      obtain ⟨t114, A60, H⟩ := H
      replace H : (if t114 = true then (some 0) else (some a1)) = some r := H
      have A6 := Cs.am A60
      clear A60
      by_cases c7 : t114 = true
      · subst c7
        have H1 : (some 0) = some r := by rw [if_pos rfl] at H; exact H
        clear H
        have H := H1
        clear H1
        obtain rfl := Option.some.inj H
        have p5 : 0 ≤ (a1 : Int) := of_decide_eq_true (by first | (with_reducible assumption) | assumption)
        have q5 : a1 < (a0.size : Int) := of_decide_eq_true (by first | (with_reducible assumption) | assumption)
        have hx5 := bt_at a0 a1
        replace p5 := eq_true p5
        replace q5 := eq_true q5
        go_enter Try.func170, Try.ntmps170
        go_wp2_with (first | (go_at_call 183; (with_reducible refine (lex_glued.calls (bt a0 a1) true _ A6.out).mono ?_); rintro e w' ⟨rfl, ⟨nd, rfl⟩⟩))
        go_ret
        exact ⟨by first | rfl | (simp; done) | (simp [*]; done), by repeat (first | exact Drawn0.refl _ | apply Drawn0.step)⟩
      · replace c7 := Bool.eq_false_iff.mpr c7
        subst c7
        have H1 : (some a1) = some r := by rw [if_neg (show ¬ (false = true) by decide)] at H; exact H
        clear H
        have H := H1
        clear H1
        obtain rfl := Option.some.inj H
        have p5 : 0 ≤ (a1 : Int) := of_decide_eq_true (by first | (with_reducible assumption) | assumption)
        have q5 : a1 < (a0.size : Int) := of_decide_eq_true (by first | (with_reducible assumption) | assumption)
        have hx5 := bt_at a0 a1
        replace p5 := eq_true p5
        replace q5 := eq_true q5
        go_enter Try.func170, Try.ntmps170
        go_wp2_with (first | (go_at_call 183; (with_reducible refine (lex_glued.calls (bt a0 a1) false _ A6.out).mono ?_); rintro e w' ⟨rfl, ⟨nd, rfl⟩⟩))
        go_ret
        exact ⟨by first | rfl | (simp; done) | (simp [*]; done), by repeat (first | exact Drawn0.refl _ | apply Drawn0.step)⟩
    · rw [if_neg c4] at H
      exact absurd H (by simp)
  · rw [if_neg c3] at H
    have c3b0 : decide (a1 < (a0.size : Int)) = false := decide_eq_false c3
    clear c3
    obtain rfl := Option.some.inj H
    go_enter Try.func170, Try.ntmps170
    go_wp2
    go_ret
    exact ⟨by first | rfl | (simp; done) | (simp [*]; done), by repeat (first | exact Drawn0.refl _ | apply Drawn0.step)⟩

/-! ### lex_one_2: function 172 -/
def lex_one_2.f (a0 : Int) : Option (Bool) := (lex_capital.f a0).bind fun t115 => (if t115 = true then (some true) else (some (a0 == 95)))
set_option maxHeartbeats 8000000 in
set_option maxRecDepth 100000 in
theorem lex_one_2.calls (a0 : Int) (r : Bool) (w : World) (h : lex_one_2.f a0 = some r) :
    Calls Try.prog 172 #[.int .u8 a0] w fun e w' => e = .returned (.bool r) ∧ Drawn0 w w' := by
  have H : ((lex_capital.f a0).bind fun t115 => (if t115 = true then (some true) else (some (a0 == 95)))) = some r := h
  clear h
  replace H := Option.bind_eq_some_iff.mp H
  obtain ⟨t115, A20, H⟩ := H
  replace H : (if t115 = true then (some true) else (some (a0 == 95))) = some r := H
  have A2 := Cs.am A20
  clear A20
  by_cases c3 : t115 = true
  · subst c3
    have H1 : (some true) = some r := by rw [if_pos rfl] at H; exact H
    clear H
    have H := H1
    clear H1
    obtain rfl := Option.some.inj H
    go_enter Try.func172, Try.ntmps172
    go_wp2_with (first | ((with_reducible refine gate_callee (f := 171) rfl ?_); refine goesL_ (some 4) rfl rfl Try.func171 (by kernel_rfl) rfl #[.int .u8 a0] rfl (by (try simp only [List.map_toArray, List.map_cons, List.map_nil]); first | done | rfl | (simp only [List.length_drop, List.length_take]; rfl)) ?_; (with_reducible refine (lex_capital.calls a0 true _ A2.out).mono ?_); rintro e w' ⟨rfl, ⟨nd, rfl⟩⟩; refine ⟨_, rfl, ?_⟩))
    go_ret
    exact ⟨by first | rfl | (simp; done) | (simp [*]; done), by repeat (first | exact Drawn0.refl _ | apply Drawn0.step)⟩
  · replace c3 := Bool.eq_false_iff.mpr c3
    subst c3
    have H1 : (some (a0 == 95)) = some r := by rw [if_neg (show ¬ (false = true) by decide)] at H; exact H
    clear H
    have H := H1
    clear H1
    obtain rfl := Option.some.inj H
    go_enter Try.func172, Try.ntmps172
    go_wp2_with (first | ((with_reducible refine gate_callee (f := 171) rfl ?_); refine goesL_ (some 4) rfl rfl Try.func171 (by kernel_rfl) rfl #[.int .u8 a0] rfl (by (try simp only [List.map_toArray, List.map_cons, List.map_nil]); first | done | rfl | (simp only [List.length_drop, List.length_take]; rfl)) ?_; (with_reducible refine (lex_capital.calls a0 false _ A2.out).mono ?_); rintro e w' ⟨rfl, ⟨nd, rfl⟩⟩; refine ⟨_, rfl, ?_⟩))
    go_ret
    exact ⟨by first | rfl | (simp; done) | (simp [*]; done), by repeat (first | exact Drawn0.refl _ | apply Drawn0.step)⟩

/-! ### lex_quoted: function 173 -/
mutual
def lex_quoted.l0 : Nat → ByteArray → Int → Option (Int)
  | 0, _, _ => none
  | k + 1, x0, x3 => if x3 < (x0.size : Int) then (if 0 ≤ x3 then (if (bt x0 x3) < 32 then (lex_quoted.j1 k x0 x3 true) else (lex_quoted.j1 k x0 x3 (decide ((bt x0 x3) > 126)))) else (none)) else (some 0)
def lex_quoted.j1 : Nat → ByteArray → Int → Bool → Option (Int)
  | 0, _, _, _ => none
  | k + 1, x0, x3, x12 => if x12 = true then (some 0) else (if 0 ≤ x3 then (if x3 < (x0.size : Int) then (if (bt x0 x3) = 39 then (if (wrap64 (x3 + 1)) < (x0.size : Int) then (if 0 ≤ (wrap64 (x3 + 1)) then (if (bt x0 (wrap64 (x3 + 1))) = 39 then (lex_quoted.l0 k x0 (wrap64 ((wrap64 (x3 + 1)) + 1))) else (some (wrap64 (x3 + 1)))) else (none)) else (some (wrap64 (x3 + 1)))) else (lex_quoted.l0 k x0 (wrap64 (x3 + 1)))) else (none)) else (none))
end
def lex_quoted.f (k : Nat) (a0 : ByteArray) : Option (Int) := lex_quoted.l0 k a0 1
theorem lex_quoted.mono_l : ∀ k, (∀ y0 y1, LeO (lex_quoted.l0 k y0 y1) (lex_quoted.l0 (k + 1) y0 y1)) ∧ (∀ y0 y1 y2, LeO (lex_quoted.j1 k y0 y1 y2) (lex_quoted.j1 (k + 1) y0 y1 y2))
  | 0 => ⟨fun _ _ r h => by simp [lex_quoted.l0] at h, fun _ _ _ r h => by simp [lex_quoted.j1] at h⟩
  | k + 1 => by
    obtain ⟨ih0, ih1⟩ := lex_quoted.mono_l k
    refine ⟨?_, ?_⟩
    · intro y0 y1
      unfold lex_quoted.l0
      repeat' first
      | (with_reducible exact ih0 _ _)
      | (with_reducible exact ih1 _ _ _)
      | (with_reducible exact LeO.refl _)
      | (with_reducible exact LeO.none _)
      | (with_reducible refine LeO.ite ?_ ?_)
      | (with_reducible refine LeO.bind ?_ (fun _ => ?_))
      | exact ih0 _ _
      | exact ih1 _ _ _
      | exact LeO.none _
      | refine LeO.ite ?_ ?_
      | refine LeO.bind ?_ (fun _ => ?_)
    · intro y0 y1 y2
      unfold lex_quoted.j1
      repeat' first
      | (with_reducible exact ih0 _ _)
      | (with_reducible exact ih1 _ _ _)
      | (with_reducible exact LeO.refl _)
      | (with_reducible exact LeO.none _)
      | (with_reducible refine LeO.ite ?_ ?_)
      | (with_reducible refine LeO.bind ?_ (fun _ => ?_))
      | exact ih0 _ _
      | exact ih1 _ _ _
      | exact LeO.none _
      | refine LeO.ite ?_ ?_
      | refine LeO.bind ?_ (fun _ => ?_)
theorem lex_quoted.mono : ∀ a0 k, LeO (lex_quoted.f k a0) (lex_quoted.f (k + 1) a0) := by
  intro a0 k
  obtain ⟨ih0, ih1⟩ := lex_quoted.mono_l k
  unfold lex_quoted.f
  repeat' first
      | (with_reducible exact ih0 _ _)
      | (with_reducible exact ih1 _ _ _)
      | (with_reducible exact LeO.refl _)
      | (with_reducible exact LeO.none _)
      | (with_reducible refine LeO.ite ?_ ?_)
      | (with_reducible refine LeO.bind ?_ (fun _ => ?_))
      | exact ih0 _ _
      | exact ih1 _ _ _
      | exact LeO.none _
      | refine LeO.ite ?_ ?_
      | refine LeO.bind ?_ (fun _ => ?_)
set_option maxHeartbeats 8000000 in
set_option maxRecDepth 100000 in
theorem lex_quoted.calls (k : Nat) (a0 : ByteArray) (r : Int) (w : World) (h : lex_quoted.f k a0 = some r) :
    Calls Try.prog 173 #[.string a0] w fun e w' => e = .returned (.int .i64 r) ∧ Drawn0 w w' := by
  have H : (lex_quoted.l0 k a0 1) = some r := h
  clear h
  have H' := Cs.am H
  clear H
  go_enter Try.func173, Try.ntmps173
  go_wp2
  go_loopg [3] k (fun kq v3 w' => ∃ (x3_1 : Int), v3 = .int .i64 x3_1 ∧ Aside0 (lex_quoted.l0 kq a0 x3_1 = some r) ∧ Aside0 (kq ≤ k) ∧ Drawn0 w w')
  case atStart => exact ⟨(1), (by first | rfl | (simp; done) | (simp [*]; done)), H', ⟨Nat.le_refl _⟩, by repeat (first | exact Drawn0.refl _ | apply Drawn0.step)⟩
  case round =>
    clear H'
    try clear c1
    obtain ⟨x3_1, rfl, HA, HK1, ⟨m1, rfl⟩⟩ := hrel
    cases gk with
    | zero => exact absurd HA.out (by simp [lex_quoted.l0])
    | succ k1 =>
      have H := HA.out
      clear HA
      simp only [lex_quoted.l0] at H
      by_cases c2 : x3_1 < (a0.size : Int)
      · rw [if_pos c2] at H
        have c2b0 : decide (x3_1 < (a0.size : Int)) = true := decide_eq_true c2
        clear c2
        have HC3 := Cs.am H
        clear H
        go_upto_region 5 with (fail)
        go_cut [12] (fun v12 wc => ∃ (kq : Nat) (x12_2 : Bool), v12 = .bool x12_2 ∧ Aside0 (lex_quoted.j1 kq a0 x3_1 x12_2 = some r) ∧ Aside0 (kq ≤ k1) ∧ Drawn0 w wc)
        case first =>
          have H := HC3.out
          clear HC3
          by_cases c4 : 0 ≤ x3_1
          · rw [if_pos c4] at H
            have c4b0 : decide (0 ≤ x3_1) = true := decide_eq_true c4
            clear c4
            (first | rw [c4b0] | (simp only [i64_w, i32_w]; rw [c4b0]) | skip)
            by_cases c6 : (bt a0 x3_1) < 32
            · rw [if_pos c6] at H
              have c6b0 : decide ((bt a0 x3_1) < 32) = true := decide_eq_true c6
              clear c6
              have H' := Cs.am H
              clear H
              have p5 : 0 ≤ (x3_1 : Int) := of_decide_eq_true (by first | (with_reducible assumption) | assumption)
              have q5 : x3_1 < (a0.size : Int) := of_decide_eq_true (by first | (with_reducible assumption) | assumption)
              have hx5 := bt_at a0 x3_1
              replace p5 := eq_true p5
              replace q5 := eq_true q5
              go_wp2
              go_meet
              case rel => exact ⟨_, (true), (by first | rfl | (simp; done) | (simp [*]; done)), H', ⟨by have := HK1.out; first | omega | exact Nat.le_refl _⟩, by repeat (first | exact Drawn0.refl _ | apply Drawn0.step)⟩
            · rw [if_neg c6] at H
              have c6b0 : decide ((bt a0 x3_1) < 32) = false := decide_eq_false c6
              clear c6
              have H' := Cs.am H
              clear H
              have p5 : 0 ≤ (x3_1 : Int) := of_decide_eq_true (by first | (with_reducible assumption) | assumption)
              have q5 : x3_1 < (a0.size : Int) := of_decide_eq_true (by first | (with_reducible assumption) | assumption)
              have hx5 := bt_at a0 x3_1
              replace p5 := eq_true p5
              replace q5 := eq_true q5
              have p7 : 0 ≤ (x3_1 : Int) := of_decide_eq_true (by first | (with_reducible assumption) | assumption)
              have q7 : x3_1 < (a0.size : Int) := of_decide_eq_true (by first | (with_reducible assumption) | assumption)
              have hx7 := bt_at a0 x3_1
              replace p7 := eq_true p7
              replace q7 := eq_true q7
              go_wp2
              go_meet
              case rel => exact ⟨_, (decide ((bt a0 x3_1) > 126)), (by first | rfl | (simp; done) | (simp [*]; done)), H', ⟨by have := HK1.out; first | omega | exact Nat.le_refl _⟩, by repeat (first | exact Drawn0.refl _ | apply Drawn0.step)⟩
          · rw [if_neg c4] at H
            exact absurd H (by simp)
        case rest =>
          clear HC3
          try clear c1
          try clear c2
          try clear c2b0
          try clear p2
          try clear c4
          try clear c4b0
          try clear p5
          try clear q5
          try clear hx5
          try clear c6
          try clear c6b0
          try clear p7
          try clear q7
          try clear hx7
          try clear p5
          try clear p7
          try clear q5
          try clear q7
          obtain ⟨kq, x12_2, rfl, HA, HJ2, ⟨mc2, rfl⟩⟩ := hcut
          cases kq with
          | zero => exact absurd HA.out (by simp [lex_quoted.j1])
          | succ kj2 =>
            have H := HA.out
            clear HA
            simp only [lex_quoted.j1] at H
            by_cases c8 : x12_2 = true
            · subst c8
              have H1 : (some 0) = some r := by rw [if_pos rfl] at H; exact H
              clear H
              have H := H1
              clear H1
              obtain rfl := Option.some.inj H
              go_wp2
              go_ret
              exact ⟨by first | rfl | (simp; done) | (simp [*]; done), by repeat (first | exact Drawn0.refl _ | apply Drawn0.step)⟩
            · replace c8 := Bool.eq_false_iff.mpr c8
              subst c8
              have H1 : (if 0 ≤ x3_1 then (if x3_1 < (a0.size : Int) then (if (bt a0 x3_1) = 39 then (if (wrap64 (x3_1 + 1)) < (a0.size : Int) then (if 0 ≤ (wrap64 (x3_1 + 1)) then (if (bt a0 (wrap64 (x3_1 + 1))) = 39 then (lex_quoted.l0 kj2 a0 (wrap64 ((wrap64 (x3_1 + 1)) + 1))) else (some (wrap64 (x3_1 + 1)))) else (none)) else (some (wrap64 (x3_1 + 1)))) else (lex_quoted.l0 kj2 a0 (wrap64 (x3_1 + 1)))) else (none)) else (none)) = some r := by rw [if_neg (show ¬ (false = true) by decide)] at H; exact H
              clear H
              have H := H1
              clear H1
              by_cases c9 : 0 ≤ x3_1
              · rw [if_pos c9] at H
                have c9b0 : decide (0 ≤ x3_1) = true := decide_eq_true c9
                clear c9
                by_cases c10 : x3_1 < (a0.size : Int)
                · rw [if_pos c10] at H
                  have c10b0 : decide (x3_1 < (a0.size : Int)) = true := decide_eq_true c10
                  clear c10
                  by_cases c12 : (bt a0 x3_1) = 39
                  · rw [if_pos c12] at H
                    have c12b0 : ((bt a0 x3_1) == 39) = true := beq_iff_eq.mpr c12
                    have c12b1 : ((bt a0 x3_1) != 39) = false := bne_eq_false_iff_eq.mpr c12
                    clear c12
                    by_cases c13 : (wrap64 (x3_1 + 1)) < (a0.size : Int)
                    · rw [if_pos c13] at H
                      have c13b0 : decide ((wrap64 (x3_1 + 1)) < (a0.size : Int)) = true := decide_eq_true c13
                      clear c13
                      obtain ⟨ji14, hji14⟩ : ∃ j_ : Int, (wrap64 (x3_1 + 1)) = j_ := ⟨_, rfl⟩
                      replace H : (if 0 ≤ (ji14) then (if (bt a0 (ji14)) = 39 then (lex_quoted.l0 kj2 a0 (wrap64 ((ji14) + 1))) else (some ji14)) else (none)) = some r := by first | (rw [hji14] at H; exact H) | (simp only [hji14] at H ⊢; exact H)
                      (try rw [hji14] at c13b0)
                      have hji14w : (IntKind.i64.wrap (x3_1 + 1)) = ji14 := (i64_w _).trans hji14
                      by_cases c15 : 0 ≤ (ji14)
                      · rw [if_pos c15] at H
                        have c15b0 : decide (0 ≤ (ji14)) = true := decide_eq_true c15
                        clear c15
                        by_cases c17 : (bt a0 (ji14)) = 39
                        · rw [if_pos c17] at H
                          have c17b0 : ((bt a0 (ji14)) == 39) = true := beq_iff_eq.mpr c17
                          have c17b1 : ((bt a0 (ji14)) != 39) = false := bne_eq_false_iff_eq.mpr c17
                          clear c17
                          have H' := Cs.am H
                          clear H
                          have p11 : 0 ≤ (x3_1 : Int) := of_decide_eq_true (by first | (with_reducible assumption) | assumption)
                          have q11 : x3_1 < (a0.size : Int) := of_decide_eq_true (by first | (with_reducible assumption) | assumption)
                          have hx11 := bt_at a0 x3_1
                          replace p11 := eq_true p11
                          replace q11 := eq_true q11
                          have p16 : 0 ≤ ((ji14) : Int) := of_decide_eq_true (by first | (with_reducible assumption) | assumption)
                          have q16 : (ji14) < (a0.size : Int) := of_decide_eq_true (by first | (with_reducible assumption) | assumption)
                          have hx16 := bt_at a0 (ji14)
                          replace p16 := eq_true p16
                          replace q16 := eq_true q16
                          go_wp2
                          go_roundg kj2
                          case measure => have := HK1.out; have := HJ2.out; omega
                          case rel => exact ⟨(wrap64 ((ji14) + 1)), (by first | rfl | (simp; done) | (simp only [← hji14] <;> (first | rfl | simp)) | (simp [*]; done)), H', ⟨by have := HK1.out; have := HJ2.out; omega⟩, by repeat (first | exact Drawn0.refl _ | apply Drawn0.step)⟩
                        · rw [if_neg c17] at H
                          have c17b0 : ((bt a0 (ji14)) == 39) = false := beq_eq_false_iff_ne.mpr c17
                          have c17b1 : ((bt a0 (ji14)) != 39) = true := bne_iff_ne.mpr c17
                          obtain rfl := Option.some.inj H
                          have p11 : 0 ≤ (x3_1 : Int) := of_decide_eq_true (by first | (with_reducible assumption) | assumption)
                          have q11 : x3_1 < (a0.size : Int) := of_decide_eq_true (by first | (with_reducible assumption) | assumption)
                          have hx11 := bt_at a0 x3_1
                          replace p11 := eq_true p11
                          replace q11 := eq_true q11
                          have p16 : 0 ≤ ((ji14) : Int) := of_decide_eq_true (by first | (with_reducible assumption) | assumption)
                          have q16 : (ji14) < (a0.size : Int) := of_decide_eq_true (by first | (with_reducible assumption) | assumption)
                          have hx16 := bt_at a0 (ji14)
                          replace p16 := eq_true p16
                          replace q16 := eq_true q16
                          go_wp2
                          go_ret
                          exact ⟨by first | rfl | (simp; done) | (simp only [← hji14] <;> (first | rfl | simp)) | (simp [*]; done), by repeat (first | exact Drawn0.refl _ | apply Drawn0.step)⟩
                      · rw [if_neg c15] at H
                        exact absurd H (by simp)
                    · rw [if_neg c13] at H
                      have c13b0 : decide ((wrap64 (x3_1 + 1)) < (a0.size : Int)) = false := decide_eq_false c13
                      clear c13
                      obtain rfl := Option.some.inj H
                      have p11 : 0 ≤ (x3_1 : Int) := of_decide_eq_true (by first | (with_reducible assumption) | assumption)
                      have q11 : x3_1 < (a0.size : Int) := of_decide_eq_true (by first | (with_reducible assumption) | assumption)
                      have hx11 := bt_at a0 x3_1
                      replace p11 := eq_true p11
                      replace q11 := eq_true q11
                      go_wp2
                      go_ret
                      exact ⟨by first | rfl | (simp; done) | (simp [*]; done), by repeat (first | exact Drawn0.refl _ | apply Drawn0.step)⟩
                  · rw [if_neg c12] at H
                    have c12b0 : ((bt a0 x3_1) == 39) = false := beq_eq_false_iff_ne.mpr c12
                    have c12b1 : ((bt a0 x3_1) != 39) = true := bne_iff_ne.mpr c12
                    have H' := Cs.am H
                    clear H
                    have p11 : 0 ≤ (x3_1 : Int) := of_decide_eq_true (by first | (with_reducible assumption) | assumption)
                    have q11 : x3_1 < (a0.size : Int) := of_decide_eq_true (by first | (with_reducible assumption) | assumption)
                    have hx11 := bt_at a0 x3_1
                    replace p11 := eq_true p11
                    replace q11 := eq_true q11
                    go_wp2
                    go_roundg kj2
                    case measure => have := HK1.out; have := HJ2.out; omega
                    case rel => exact ⟨(wrap64 (x3_1 + 1)), (by first | rfl | (simp; done) | (simp [*]; done)), H', ⟨by have := HK1.out; have := HJ2.out; omega⟩, by repeat (first | exact Drawn0.refl _ | apply Drawn0.step)⟩
                · rw [if_neg c10] at H
                  exact absurd H (by simp)
              · rw [if_neg c9] at H
                exact absurd H (by simp)
      · rw [if_neg c2] at H
        have c2b0 : decide (x3_1 < (a0.size : Int)) = false := decide_eq_false c2
        clear c2
        obtain rfl := Option.some.inj H
        go_wp2
        go_ret
        exact ⟨by first | rfl | (simp; done) | (simp [*]; done), by repeat (first | exact Drawn0.refl _ | apply Drawn0.step)⟩

/-! ### stringslite_HasPrefix: function 188 -/
def stringslite_HasPrefix.f (a0 : ByteArray) (a1 : ByteArray) : Option (Bool) := if (a0.size : Int) ≥ (a1.size : Int) then (if 0 ≤ (a1.size : Int) then (if (a1.size : Int) ≤ (a0.size : Int) then (some ((a0.extract 0 ((a1.size : Int) : Int).toNat).toList == a1.toList)) else (none)) else (none)) else (some false)
set_option maxHeartbeats 8000000 in
set_option maxRecDepth 100000 in
theorem stringslite_HasPrefix.calls (a0 : ByteArray) (a1 : ByteArray) (r : Bool) (w : World) (h : stringslite_HasPrefix.f a0 a1 = some r) :
    Calls Try.prog 188 #[.string a0, .string a1] w fun e w' => e = .returned (.bool r) ∧ Drawn0 w w' := by
  have H : (if (a0.size : Int) ≥ (a1.size : Int) then (if 0 ≤ (a1.size : Int) then (if (a1.size : Int) ≤ (a0.size : Int) then (some ((a0.extract 0 ((a1.size : Int) : Int).toNat).toList == a1.toList)) else (none)) else (none)) else (some false)) = some r := h
  clear h
  by_cases c3 : (a0.size : Int) ≥ (a1.size : Int)
  · rw [if_pos c3] at H
    have c3b0 : decide ((a1.size : Int) ≤ (a0.size : Int)) = true := decide_eq_true c3
    have c3b1 : decide (a1.size ≤ a0.size) = true := decide_eq_true (Int.ofNat_le.mp c3)
    clear c3
    by_cases c4 : 0 ≤ (a1.size : Int)
    · rw [if_pos c4] at H
      have c4b0 := eq_true c4
      have c4b1 : decide (0 ≤ (a1.size : Int)) = true := decide_eq_true c4
      clear c4
      by_cases c5 : (a1.size : Int) ≤ (a0.size : Int)
      · rw [if_pos c5] at H
        have c5b0 := eq_true c5
        have c5b1 : decide ((a1.size : Int) ≤ (a0.size : Int)) = true := decide_eq_true c5
        clear c5
        obtain rfl := Option.some.inj H
        go_enter Try.func188, Try.ntmps188
        go_wp2
        go_ret
        exact ⟨by first | rfl | (simp; done) | (simp [*]; done), by repeat (first | exact Drawn0.refl _ | apply Drawn0.step)⟩
      · rw [if_neg c5] at H
        exact absurd H (by simp)
    · rw [if_neg c4] at H
      exact absurd H (by simp)
  · rw [if_neg c3] at H
    have c3b0 : decide ((a1.size : Int) ≤ (a0.size : Int)) = false := decide_eq_false c3
    have c3b1 : decide (a1.size ≤ a0.size) = false := decide_eq_false (fun h => c3 (Int.ofNat_le.mpr h))
    clear c3
    obtain rfl := Option.some.inj H
    go_enter Try.func188, Try.ntmps188
    go_wp2
    go_ret
    exact ⟨by first | rfl | (simp; done) | (simp [*]; done), by repeat (first | exact Drawn0.refl _ | apply Drawn0.step)⟩

/-! ### strings_HasPrefix: function 184 -/
def strings_HasPrefix.f (a0 : ByteArray) (a1 : ByteArray) : Option (Bool) := (stringslite_HasPrefix.f a0 a1).bind fun t116 => (some t116)
set_option maxHeartbeats 8000000 in
set_option maxRecDepth 100000 in
theorem strings_HasPrefix.calls (a0 : ByteArray) (a1 : ByteArray) (r : Bool) (w : World) (h : strings_HasPrefix.f a0 a1 = some r) :
    Calls Try.prog 184 #[.string a0, .string a1] w fun e w' => e = .returned (.bool r) ∧ Drawn0 w w' := by
  have H : ((stringslite_HasPrefix.f a0 a1).bind fun t116 => (some t116)) = some r := h
  clear h
  replace H := Option.bind_eq_some_iff.mp H
  obtain ⟨t116, A30, H⟩ := H
  replace H : (some t116) = some r := H
  have A3 := Cs.am A30
  clear A30
  obtain rfl := Option.some.inj H
  go_enter Try.func184, Try.ntmps184
  go_wp2_with (first | ((with_reducible refine gate_callee (f := 188) rfl ?_); refine goesL_ (some 7) rfl rfl Try.func188 (by kernel_rfl) rfl #[.string a0, .string a1] rfl (by (try simp only [List.map_toArray, List.map_cons, List.map_nil]); first | done | rfl | (simp only [List.length_drop, List.length_take]; rfl)) ?_; (with_reducible refine (stringslite_HasPrefix.calls a0 a1 t116 _ A3.out).mono ?_); rintro e w' ⟨rfl, ⟨nd, rfl⟩⟩; refine ⟨_, rfl, ?_⟩))
  go_ret
  exact ⟨by first | rfl | (simp; done) | (simp [*]; done), by repeat (first | exact Drawn0.refl _ | apply Drawn0.step)⟩

/-! ### lex_sign: function 174: by hand -/
def lex_sign.L1 : List ByteArray := [⟨#[60, 62]⟩, ⟨#[60, 61]⟩, ⟨#[62, 61]⟩, ⟨#[124, 124]⟩]
def lex_sign.L2 : List ByteArray := [⟨#[40]⟩, ⟨#[41]⟩, ⟨#[44]⟩, ⟨#[61]⟩, ⟨#[60]⟩, ⟨#[62]⟩, ⟨#[43]⟩, ⟨#[45]⟩, ⟨#[42]⟩, ⟨#[47]⟩, ⟨#[37]⟩]
def lex_sign.pick (s : ByteArray) : List ByteArray → Option Int
  | [] => some 0
  | x :: t => (strings_HasPrefix.f s x).bind fun b => if b = true then some (x.size : Int) else lex_sign.pick s t
def lex_sign.f (a0 : ByteArray) : Option Int := lex_sign.pick a0 (lex_sign.L1 ++ lex_sign.L2)
def lex_sign.Facts (w wr : World) : Prop := (∀ k x, lex_sign.L1[k]? = some x → wr.cell? ⟨w.heap.size, k, none⟩ = some (.string x)) ∧ (∀ k x, lex_sign.L2[k]? = some x → wr.cell? ⟨w.heap.size + 1, k, none⟩ = some (.string x)) ∧ Below w.heap.size w wr
theorem lex_sign.Facts.drawn {w wr : World} (h : lex_sign.Facts w wr) (n : Nat) : lex_sign.Facts w (wr.drewN n) := ⟨fun k x hx => by rw [World.cell?_drewN]; exact h.1 k x hx, fun k x hx => by rw [World.cell?_drewN]; exact h.2.1 k x hx, pw_below_drewN h.2.2 n⟩
theorem lex_sign.L1_at (k : Nat) (h : k < 4) : ∃ x, lex_sign.L1[k]? = some x ∧ lex_sign.L1.drop k = x :: lex_sign.L1.drop (k + 1) := by
  have hl : k < lex_sign.L1.length := h
  exact ⟨lex_sign.L1[k], List.getElem?_eq_getElem hl, List.drop_eq_getElem_cons hl⟩
theorem lex_sign.L2_at (k : Nat) (h : k < 11) : ∃ x, lex_sign.L2[k]? = some x ∧ lex_sign.L2.drop k = x :: lex_sign.L2.drop (k + 1) := by
  have hl : k < lex_sign.L2.length := h
  exact ⟨lex_sign.L2[k], List.getElem?_eq_getElem hl, List.drop_eq_getElem_cons hl⟩
theorem lex_sign.start (w : World) (T : TypeId) : lex_sign.Facts w ((w.alloc (.cells (lex_sign.L1.map Value.string).toArray T)).alloc (.cells (lex_sign.L2.map Value.string).toArray T)) := by
  refine ⟨fun k x hx => ?_, fun k x hx => ?_, ((Below.refl _ _).alloc (Nat.le_refl _) _).alloc (by simp) _⟩
  · rw [World.cell?_alloc_past _ _ _ (by simp), World.cell?_alloc_new]
    simp [hx]
  · have e : (w.alloc (.cells (lex_sign.L1.map Value.string).toArray T)).heap.size = w.heap.size + 1 := by simp
    rw [← e, World.cell?_alloc_new]
    simp [hx]
set_option maxHeartbeats 8000000 in
set_option maxRecDepth 100000 in
theorem lex_sign.calls (a0 : ByteArray) (r : Int) (w : World) (h : lex_sign.f a0 = some r) :
    Calls Try.prog 174 #[.string a0] w fun e w' => e = .returned (.int .i64 r) ∧ Below w.heap.size w w' := by
  unfold lex_sign.f at h
  have HP := Aside0.mk h
  clear h
  go_enter Try.func174, Try.ntmps174
  go_wp2_with (go_step3)
  go_loopw [3, 11] (fun v3 v11 wr => ∃ L : List ByteArray, v3 = .int .i64 0 ∧ ((v11 = .int .i64 0 ∧ L = lex_sign.L1 ++ lex_sign.L2) ∨ (v11 = .int .i64 1 ∧ L = lex_sign.L2) ∨ (v11 = .int .i64 2 ∧ L = [])) ∧ Aside0 (lex_sign.pick a0 L = some r) ∧ Aside0 (lex_sign.Facts w wr)) (fun _ v11 _ => 2 - (intOf v11).toNat)
  case atStart => exact ⟨_, rfl, .inl ⟨rfl, rfl⟩, HP, Aside0.mk (lex_sign.start w 9)⟩
  case round =>
    obtain ⟨L, rfl, hL, HH, HF⟩ := hrel
    rcases hL with ⟨rfl, rfl⟩ | ⟨rfl, rfl⟩ | ⟨rfl, rfl⟩
    · skip
      have ix : ∀ W : World, (Instr.index 178 (.agg #[.slice (some ⟨w.heap.size, 0, none⟩) 4 4, .slice (some ⟨w.heap.size + 1, 0, none⟩) 11 11]) (.int .i64 0)).run Try.prog W = .ok (.slice (some ⟨w.heap.size, 0, none⟩) 4 4) W := fun _ => by kernel_rfl
      go_wp2
      go_loopw [3, 16] (fun v3 v16 wi => ∃ k : Nat, v3 = .int .i64 0 ∧ v16 = .int .i64 k ∧ k ≤ 4 ∧ Aside0 (lex_sign.pick a0 (lex_sign.L1.drop k ++ lex_sign.L2) = some r) ∧ Aside0 (lex_sign.Facts w wi)) (fun _ v16 _ => 4 - (intOf v16).toNat)
      case atStart => exact ⟨0, rfl, rfl, by omega, HH, HF⟩
      case round =>
        obtain ⟨k, rfl, rfl, hk, HK, HG⟩ := hrel
        by_cases hlt : k < 4
        · obtain ⟨x, hx, hd⟩ := lex_sign.L1_at k hlt
          have hcell := HG.out.1 k x hx
          have hp := HK.out
          rw [hd, List.cons_append, lex_sign.pick] at hp
          obtain ⟨b, hb, hp⟩ := Option.bind_eq_some_iff.mp hp
          have HB := Aside0.mk hb
          have HP2 := Aside0.mk hp
          clear hb hp hd hx
          cases b with
          | true =>
            have hr : (x.size : Int) = r := by have := HP2.out; simpa using this
            have HR := Aside0.mk hr
            clear hr
            go_wp2_with (go_at_call 184; (with_reducible refine (strings_HasPrefix.calls a0 x true _ HB.out).mono ?_); rintro e w' ⟨rfl, ⟨nd, rfl⟩⟩)
            try simp only [Exit.noGoto_ret]
            go_ret
            exact ⟨by rw [← HR.out]; rfl, pw_below_drewN HG.out.2.2 _⟩
          | false =>
            go_wp2_with (go_at_call 184; (with_reducible refine (strings_HasPrefix.calls a0 x false _ HB.out).mono ?_); rintro e w' ⟨rfl, ⟨nd, rfl⟩⟩)
            go_roundw
            case rel => exact ⟨k + 1, rfl, by go_num, by omega, Aside0.mk (by simpa using HP2.out), Aside0.mk (HG.out.drawn _)⟩
            case measure => simp [intOf]; omega
        · obtain rfl : k = 4 := by omega
          go_wp2
          go_roundw
          case rel => exact ⟨_, rfl, .inr (.inl ⟨rfl, rfl⟩), Aside0.mk (by simpa [lex_sign.L1] using HK.out), HG⟩
          case measure => simp [intOf]
    · have HH : Aside0 (lex_sign.pick a0 (lex_sign.L2 ++ []) = some r) := Aside0.mk (by rw [List.append_nil]; exact HH.out)
      have ix : ∀ W : World, (Instr.index 178 (.agg #[.slice (some ⟨w.heap.size, 0, none⟩) 4 4, .slice (some ⟨w.heap.size + 1, 0, none⟩) 11 11]) (.int .i64 1)).run Try.prog W = .ok (.slice (some ⟨w.heap.size + 1, 0, none⟩) 11 11) W := fun _ => by kernel_rfl
      go_wp2
      go_loopw [3, 16] (fun v3 v16 wi => ∃ k : Nat, v3 = .int .i64 0 ∧ v16 = .int .i64 k ∧ k ≤ 11 ∧ Aside0 (lex_sign.pick a0 (lex_sign.L2.drop k ++ []) = some r) ∧ Aside0 (lex_sign.Facts w wi)) (fun _ v16 _ => 11 - (intOf v16).toNat)
      case atStart => exact ⟨0, rfl, rfl, by omega, HH, HF⟩
      case round =>
        obtain ⟨k, rfl, rfl, hk, HK, HG⟩ := hrel
        by_cases hlt : k < 11
        · obtain ⟨x, hx, hd⟩ := lex_sign.L2_at k hlt
          have hcell := HG.out.2.1 k x hx
          have hp := HK.out
          rw [hd, List.cons_append, lex_sign.pick] at hp
          obtain ⟨b, hb, hp⟩ := Option.bind_eq_some_iff.mp hp
          have HB := Aside0.mk hb
          have HP2 := Aside0.mk hp
          clear hb hp hd hx
          cases b with
          | true =>
            have hr : (x.size : Int) = r := by have := HP2.out; simpa using this
            have HR := Aside0.mk hr
            clear hr
            go_wp2_with (go_at_call 184; (with_reducible refine (strings_HasPrefix.calls a0 x true _ HB.out).mono ?_); rintro e w' ⟨rfl, ⟨nd, rfl⟩⟩)
            try simp only [Exit.noGoto_ret]
            go_ret
            exact ⟨by rw [← HR.out]; rfl, pw_below_drewN HG.out.2.2 _⟩
          | false =>
            go_wp2_with (go_at_call 184; (with_reducible refine (strings_HasPrefix.calls a0 x false _ HB.out).mono ?_); rintro e w' ⟨rfl, ⟨nd, rfl⟩⟩)
            go_roundw
            case rel => exact ⟨k + 1, rfl, by go_num, by omega, Aside0.mk (by simpa using HP2.out), Aside0.mk (HG.out.drawn _)⟩
            case measure => simp [intOf]; omega
        · obtain rfl : k = 11 := by omega
          go_wp2
          go_roundw
          case rel => exact ⟨_, rfl, .inr (.inr ⟨rfl, rfl⟩), Aside0.mk (by simpa [lex_sign.L2] using HK.out), HG⟩
          case measure => simp [intOf]
    · have hr : r = 0 := by have := HH.out; simp [lex_sign.pick] at this; omega
      have HR := Aside0.mk hr
      clear hr
      go_wp2
      try simp only [Exit.noGoto_ret]
      go_ret
      exact ⟨by rw [HR.out]; rfl, HF.out.2.2⟩


end Go.Proofs.Ytbmgenifdlgbmaa.Q

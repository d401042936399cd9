-- Written by a program of this session (wip/prx.py) out of the translation; Lean checks it.
import Derived.Test.YtbmgenifdlgbmaaQ0
import Derived.Test.YtbmgenifdlgbmaaQ2
import Derived.Test.YtbmgenifdlgbmaaQ3
namespace Go.Proofs.Ytbmgenifdlgbmaa.Q
open Go.RowKit Go.Proofs.YtbmgenifdlgbmaaW.PrintWords Go.Proofs.YtbmgenifdlgbmaaW.PrintLast Go.Proofs.YtbmgenifdlgbmaaW.PrintMore
attribute [local go_sem] max2_int min2_int max_two min_two max_three min_three max_four min_four   -- for this text's walks alone
set_option linter.unusedVariables false
set_option linter.unusedSimpArgs false

/-! ### expr_call: function 133 -/
def expr_call.f (a0 : ByteArray) (a1 : Int) : Option (Bool) := if a0.toList = ([99, 111, 97, 108, 101, 115, 99, 101] : List UInt8) then (if a1 ≥ 1 then (some (decide (a1 ≤ 4))) else (some false)) else (if a0.toList = ([108, 101, 110, 103, 116, 104] : List UInt8) then (some (a1 == 1)) else (if a0.toList = ([97, 98, 115] : List UInt8) then (some (a1 == 1)) else (some false)))
set_option maxHeartbeats 8000000 in
set_option maxRecDepth 100000 in
theorem expr_call.calls (a0 : ByteArray) (a1 : Int) (r : Bool) (w : World) (h : expr_call.f a0 a1 = some r) :
    Calls Try.prog 133 #[.string a0, .int .i64 a1] w fun e w' => e = .returned (.bool r) ∧ Drawn0 w w' := by
  have H : (if a0.toList = ([99, 111, 97, 108, 101, 115, 99, 101] : List UInt8) then (if a1 ≥ 1 then (some (decide (a1 ≤ 4))) else (some false)) else (if a0.toList = ([108, 101, 110, 103, 116, 104] : List UInt8) then (some (a1 == 1)) else (if a0.toList = ([97, 98, 115] : List UInt8) then (some (a1 == 1)) else (some false)))) = some r := h
  clear h
  by_cases c3 : a0.toList = ([99, 111, 97, 108, 101, 115, 99, 101] : List UInt8)
  · rw [if_pos c3] at H
    have c3b0 : (a0.toList == ([99, 111, 97, 108, 101, 115, 99, 101] : List UInt8)) = true := beq_iff_eq.mpr c3
    have c3b1 : (a0.toList != ([99, 111, 97, 108, 101, 115, 99, 101] : List UInt8)) = false := bne_eq_false_iff_eq.mpr c3
    clear c3
    by_cases c4 : a1 ≥ 1
    · rw [if_pos c4] at H
      have c4b0 : decide (1 ≤ a1) = true := decide_eq_true c4
      clear c4
      obtain rfl := Option.some.inj H
      go_enter Try.func133, Try.ntmps133
      go_wp2
      go_ret
      exact ⟨by first | rfl | (simp; done) | (simp [*]; done), by repeat (first | exact Drawn0.refl _ | apply Drawn0.step)⟩
    · rw [if_neg c4] at H
      have c4b0 : decide (1 ≤ a1) = false := decide_eq_false c4
      clear c4
      obtain rfl := Option.some.inj H
      go_enter Try.func133, Try.ntmps133
      go_wp2
      go_ret
      exact ⟨by first | rfl | (simp; done) | (simp [*]; done), by repeat (first | exact Drawn0.refl _ | apply Drawn0.step)⟩
  · rw [if_neg c3] at H
    have c3b0 : (a0.toList == ([99, 111, 97, 108, 101, 115, 99, 101] : List UInt8)) = false := beq_eq_false_iff_ne.mpr c3
    have c3b1 : (a0.toList != ([99, 111, 97, 108, 101, 115, 99, 101] : List UInt8)) = true := bne_iff_ne.mpr c3
    by_cases c5 : a0.toList = ([108, 101, 110, 103, 116, 104] : List UInt8)
    · rw [if_pos c5] at H
      have c5b0 : (a0.toList == ([108, 101, 110, 103, 116, 104] : List UInt8)) = true := beq_iff_eq.mpr c5
      have c5b1 : (a0.toList != ([108, 101, 110, 103, 116, 104] : List UInt8)) = false := bne_eq_false_iff_eq.mpr c5
      clear c5
      obtain rfl := Option.some.inj H
      go_enter Try.func133, Try.ntmps133
      go_wp2
      go_ret
      exact ⟨by first | rfl | (simp; done) | (simp [*]; done), by repeat (first | exact Drawn0.refl _ | apply Drawn0.step)⟩
    · rw [if_neg c5] at H
      have c5b0 : (a0.toList == ([108, 101, 110, 103, 116, 104] : List UInt8)) = false := beq_eq_false_iff_ne.mpr c5
      have c5b1 : (a0.toList != ([108, 101, 110, 103, 116, 104] : List UInt8)) = true := bne_iff_ne.mpr c5
      by_cases c6 : a0.toList = ([97, 98, 115] : List UInt8)
      · rw [if_pos c6] at H
        have c6b0 : (a0.toList == ([97, 98, 115] : List UInt8)) = true := beq_iff_eq.mpr c6
        have c6b1 : (a0.toList != ([97, 98, 115] : List UInt8)) = false := bne_eq_false_iff_eq.mpr c6
        clear c6
        obtain rfl := Option.some.inj H
        go_enter Try.func133, Try.ntmps133
        go_wp2
        go_ret
        exact ⟨by first | rfl | (simp; done) | (simp [*]; done), by repeat (first | exact Drawn0.refl _ | apply Drawn0.step)⟩
      · rw [if_neg c6] at H
        have c6b0 : (a0.toList == ([97, 98, 115] : List UInt8)) = false := beq_eq_false_iff_ne.mpr c6
        have c6b1 : (a0.toList != ([97, 98, 115] : List UInt8)) = true := bne_iff_ne.mpr c6
        obtain rfl := Option.some.inj H
        go_enter Try.func133, Try.ntmps133
        go_wp2
        go_ret
        exact ⟨by first | rfl | (simp; done) | (simp [*]; done), by repeat (first | exact Drawn0.refl _ | apply Drawn0.step)⟩

/-! ### expr_right: function 105 -/
def expr_right.f (k : Nat) (a0_0 : Int) (a0_1 : Int) (a0_2 : Int) (a0_3 : Int) (a0_4 : ByteArray) (a0_5 : ByteArray) (l0_6 : List (S26)) (a1 : Bool) : Option (Bool) := if a0_0 = 1 then (if (l0_6.length : Int) = 0 then ((expr_bare.f a0_0 a0_1 a0_2 a0_3 a0_4 a0_5 l0_6 false true false).bind fun t139 => (if t139 = true then ((value_Right.f k a0_2 a0_3 a0_4).bind fun t140 => (if t140 = true then (if a0_2 = 1 then (some (decide (a0_3 ≥ 0))) else (some true)) else (some false))) else (some false))) else (some false)) else (if a0_0 = 2 then (if (l0_6.length : Int) = 0 then ((expr_bare.f a0_0 a0_1 a0_2 a0_3 a0_4 a0_5 l0_6 false false true).bind fun t141 => (if t141 = true then ((lex_IsName.f k a0_5).bind fun t142 => (some t142)) else (some false))) else (some false)) else (if a0_0 = 3 then (if (l0_6.length : Int) = 0 then ((expr_bare.f a0_0 a0_1 a0_2 a0_3 a0_4 a0_5 l0_6 true false false).bind fun t143 => (if t143 = true then (if a0_1 ≥ 1 then (some (decide (a0_1 ≤ 6))) else (some false)) else (some false))) else (some false)) else (if a0_0 = 4 then (if (l0_6.length : Int) = 1 then ((expr_bare.f a0_0 a0_1 a0_2 a0_3 a0_4 a0_5 l0_6 true false false).bind fun t144 => (if t144 = true then (if a0_1 ≥ 1 then (some (decide (a0_1 ≤ 4))) else (some false)) else (some false))) else (some false)) else (if a0_0 = 5 then (if (l0_6.length : Int) = 2 then ((expr_bare.f a0_0 a0_1 a0_2 a0_3 a0_4 a0_5 l0_6 true false false).bind fun t145 => (if t145 = true then (if a0_1 ≥ 1 then (some (decide (a0_1 ≤ 14))) else (some false)) else (some false))) else (some false)) else (if a0_0 = 6 then (if (l0_6.length : Int) ≥ 2 then (if (l0_6.length : Int) ≤ 9 then ((expr_bare.f a0_0 a0_1 a0_2 a0_3 a0_4 a0_5 l0_6 false false false).bind fun t146 => (some t146)) else (some false)) else (some false)) else (if a0_0 = 7 then ((expr_bare.f a0_0 a0_1 a0_2 a0_3 a0_4 a0_5 l0_6 false false true).bind fun t147 => (if t147 = true then ((expr_call.f a0_5 (l0_6.length : Int)).bind fun t148 => (some t148)) else (some false))) else (if a0_0 = 8 then (if a1 = true then (if (l0_6.length : Int) = 0 then ((expr_bare.f a0_0 a0_1 a0_2 a0_3 a0_4 a0_5 l0_6 true false false).bind fun t149 => (if t149 = true then (if a0_1 ≥ 0 then (some (decide (a0_1 < 6))) else (some false)) else (some false))) else (some false)) else (some false)) else (some false))))))))
theorem expr_right.mono : ∀ a0 a1 a2 a3 a4 a5 a6 a7 k, LeO (expr_right.f k a0 a1 a2 a3 a4 a5 a6 a7) (expr_right.f (k + 1) a0 a1 a2 a3 a4 a5 a6 a7) := by
  intro a0 a1 a2 a3 a4 a5 a6 a7 k
  unfold expr_right.f
  repeat' first
      | (with_reducible exact lex_IsName.mono _ _)
      | (with_reducible exact value_Right.mono _ _ _ _)
      | (with_reducible exact LeO.refl _)
      | (with_reducible exact LeO.none _)
      | (with_reducible refine LeO.ite ?_ ?_)
      | (with_reducible refine LeO.bind ?_ (fun _ => ?_))
      | exact lex_IsName.mono _ _
      | exact value_Right.mono _ _ _ _
      | exact LeO.none _
      | refine LeO.ite ?_ ?_
      | refine LeO.bind ?_ (fun _ => ?_)
set_option maxHeartbeats 8000000 in
set_option maxRecDepth 100000 in
theorem expr_right.calls (k : Nat) (a0_0 : Int) (a0_1 : Int) (a0_2 : Int) (a0_3 : Int) (a0_4 : ByteArray) (a0_5 : ByteArray) (A0_6 : Option Addr) (c0_6 : Nat) (l0_6 : List (S26)) (a1 : Bool) (r : Bool) (w : World) (hr0_6 : Kd.C k26 w A0_6 l0_6.length l0_6) (hc0_6 : l0_6.length ≤ c0_6) (h : expr_right.f k a0_0 a0_1 a0_2 a0_3 a0_4 a0_5 l0_6 a1 = some r) :
    Calls Try.prog 105 #[.agg #[.int .i64 a0_0, .int .i64 a0_1, .int .i64 a0_2, .int .i64 a0_3, .string a0_4, .string a0_5, .slice A0_6 l0_6.length c0_6], .bool a1] w fun e w' => e = .returned (.bool r) ∧ Below w.heap.size w w' := by
  have hu26 := Try.underlying26
  have hu23 := Try.underlying23
  have HR0_6 := Cs.am hr0_6
  have HC0_6 := Cs.am hc0_6
  clear hr0_6 hc0_6
  have HB := Cs.am (Below.refl w.heap.size w)
  have H : (if a0_0 = 1 then (if (l0_6.length : Int) = 0 then ((expr_bare.f a0_0 a0_1 a0_2 a0_3 a0_4 a0_5 l0_6 false true false).bind fun t139 => (if t139 = true then ((value_Right.f k a0_2 a0_3 a0_4).bind fun t140 => (if t140 = true then (if a0_2 = 1 then (some (decide (a0_3 ≥ 0))) else (some true)) else (some false))) else (some false))) else (some false)) else (if a0_0 = 2 then (if (l0_6.length : Int) = 0 then ((expr_bare.f a0_0 a0_1 a0_2 a0_3 a0_4 a0_5 l0_6 false false true).bind fun t141 => (if t141 = true then ((lex_IsName.f k a0_5).bind fun t142 => (some t142)) else (some false))) else (some false)) else (if a0_0 = 3 then (if (l0_6.length : Int) = 0 then ((expr_bare.f a0_0 a0_1 a0_2 a0_3 a0_4 a0_5 l0_6 true false false).bind fun t143 => (if t143 = true then (if a0_1 ≥ 1 then (some (decide (a0_1 ≤ 6))) else (some false)) else (some false))) else (some false)) else (if a0_0 = 4 then (if (l0_6.length : Int) = 1 then ((expr_bare.f a0_0 a0_1 a0_2 a0_3 a0_4 a0_5 l0_6 true false false).bind fun t144 => (if t144 = true then (if a0_1 ≥ 1 then (some (decide (a0_1 ≤ 4))) else (some false)) else (some false))) else (some false)) else (if a0_0 = 5 then (if (l0_6.length : Int) = 2 then ((expr_bare.f a0_0 a0_1 a0_2 a0_3 a0_4 a0_5 l0_6 true false false).bind fun t145 => (if t145 = true then (if a0_1 ≥ 1 then (some (decide (a0_1 ≤ 14))) else (some false)) else (some false))) else (some false)) else (if a0_0 = 6 then (if (l0_6.length : Int) ≥ 2 then (if (l0_6.length : Int) ≤ 9 then ((expr_bare.f a0_0 a0_1 a0_2 a0_3 a0_4 a0_5 l0_6 false false false).bind fun t146 => (some t146)) else (some false)) else (some false)) else (if a0_0 = 7 then ((expr_bare.f a0_0 a0_1 a0_2 a0_3 a0_4 a0_5 l0_6 false false true).bind fun t147 => (if t147 = true then ((expr_call.f a0_5 (l0_6.length : Int)).bind fun t148 => (some t148)) else (some false))) else (if a0_0 = 8 then (if a1 = true then (if (l0_6.length : Int) = 0 then ((expr_bare.f a0_0 a0_1 a0_2 a0_3 a0_4 a0_5 l0_6 true false false).bind fun t149 => (if t149 = true then (if a0_1 ≥ 0 then (some (decide (a0_1 < 6))) else (some false)) else (some false))) else (some false)) else (some false)) else (some false))))))))) = some r := h
  clear h
  by_cases c3 : a0_0 = 1
  · rw [if_pos c3] at H
    have c3b0 : (a0_0 == 1) = true := beq_iff_eq.mpr c3
    have c3b1 : (a0_0 != 1) = false := bne_eq_false_iff_eq.mpr c3
    clear c3
    by_cases c4 : (l0_6.length : Int) = 0
    · rw [if_pos c4] at H
      have c4b0 : ((l0_6.length : Int) == 0) = true := beq_iff_eq.mpr c4
      have c4b1 : ((l0_6.length : Int) != 0) = false := bne_eq_false_iff_eq.mpr c4
      clear c4
      replace H := Option.bind_eq_some_iff.mp H
      obtain ⟨t139, A50, H⟩ := H
      replace H : (if t139 = true then ((value_Right.f k a0_2 a0_3 a0_4).bind fun t140 => (if t140 = true then (if a0_2 = 1 then (some (decide (a0_3 ≥ 0))) else (some true)) else (some false))) else (some false)) = some r := H
      have A5 := Cs.am A50
      clear A50
      by_cases c6 : t139 = true
      · subst c6
        have H1 : ((value_Right.f k a0_2 a0_3 a0_4).bind fun t140 => (if t140 = true then (if a0_2 = 1 then (some (decide (a0_3 ≥ 0))) else (some true)) else (some false))) = some r := by rw [if_pos rfl] at H; exact H
        clear H
        have H := H1
        clear H1
        replace H := Option.bind_eq_some_iff.mp H
        obtain ⟨t140, A70, H⟩ := H
        replace H : (if t140 = true then (if a0_2 = 1 then (some (decide (a0_3 ≥ 0))) else (some true)) else (some false)) = some r := H
        have A7 := Cs.am A70
        clear A70
        by_cases c8 : t140 = true
        · subst c8
          have H1 : (if a0_2 = 1 then (some (decide (a0_3 ≥ 0))) else (some true)) = some r := by rw [if_pos rfl] at H; exact H
          clear H
          have H := H1
          clear H1
          by_cases c9 : a0_2 = 1
          · rw [if_pos c9] at H
            have c9b0 : (a0_2 == 1) = true := beq_iff_eq.mpr c9
            have c9b1 : (a0_2 != 1) = false := bne_eq_false_iff_eq.mpr c9
            clear c9
            obtain rfl := Option.some.inj H
            go_enter Try.func105, Try.ntmps105
            go_wp2_with (first | ((with_reducible refine gate_dst (N := 2) rfl ?_); refine box_event ?hg (N := 2) ?hd (cs := #[.int .i64 a0_0, .int .i64 a0_1, .int .i64 a0_2, .int .i64 a0_3, .string a0_4, .string a0_5, .slice A0_6 l0_6.length c0_6]) (t := 26) ?hr ?_; (case hd => rfl); (case hg => rfl); (case hr => first | (go_simp; done) | (go_simp; rfl)); intro gb138 hg w10 hbox hb; have n0_ := Cs.am (Cs.bp (by repeat (first | (with_reducible first | exact HB.out | apply Cs.ba | apply Cs.bn | apply Cs.bd) | exact HB.out)) hb); have n1_ := Cs.am (hbox); have n2_ := Cs.am ((by rw [hg]; exact (Cs.bz (by repeat (first | (with_reducible first | exact HB.out | apply Cs.ba | apply Cs.bn | apply Cs.bd) | exact HB.out))) : w.heap.size ≤ gb138)); have n3_ := Cs.am ((by rw [hg]; exact (Cs.bz (by repeat (first | (with_reducible first | exact HB.out | apply Cs.ba | apply Cs.bn | apply Cs.bd) | exact HB.out))) : w.heap.size ≤ gb138)); clear HB; have HB := n0_; have BK138 := n1_; have GW138 := n2_; have GE138 := n3_; clear n0_ n1_ n2_ n3_; clear hb hbox hg; obtain ⟨hcz11_0, hcz11_1, hcz11_2, hcz11_3, hcz11_4, hcz11_5, hcz11_6⟩ := Cs.cs7 BK138.out; obtain ⟨hfz11_0, hfz11_1, hfz11_2, hfz11_3, hfz11_4, hfz11_5⟩ := Cs.fz6 BK138.out; have hfz11_6 := blk_frozen BK138.out 6) | (go_at_call 132; (with_reducible refine (expr_bare.calls a0_0 a0_1 a0_2 a0_3 a0_4 a0_5 _ _ l0_6 false true false true _ ?side1 ?side2 A5.out).mono ?_); (case side1 => repeat (first | exact (Cs.cb HR0_6.out HB.out) | (with_reducible refine Cs.ca ?_ _) | (with_reducible refine Cs.cn ?_ _) | (with_reducible refine Cs.cd1 ?_))); (case side2 => exact HC0_6.out); rintro e w12 ⟨rfl, hb⟩; have n0_ := Cs.am (Cs.kb (g := gb138) (o := .cells #[.int .i64 a0_0, .int .i64 a0_1, .int .i64 a0_2, .int .i64 a0_3, .string a0_4, .string a0_5, .slice A0_6 l0_6.length c0_6] 26 (0, 0)) (by (with_reducible repeat (first | refine Cs.kn ?_ _ | refine Cs.kd1 ?_ | refine Cs.ka ?_ _)); exact BK138.out) hb); have n1_ := Cs.am (Cs.bp (by repeat (first | (with_reducible first | exact HB.out | apply Cs.ba | apply Cs.bn | apply Cs.bd | refine Cs.bs ?_ GE138.out) | exact HB.out)) hb); clear BK138; clear HB; have BK138 := n0_; have HB := n1_; clear n0_ n1_; (try clear hb); (try clear hb2); (try clear hk); (try clear hi); obtain ⟨hcz13_0, hcz13_1, hcz13_2, hcz13_3, hcz13_4, hcz13_5, hcz13_6⟩ := Cs.cs7 BK138.out; obtain ⟨hfz13_0, hfz13_1, hfz13_2, hfz13_3, hfz13_4, hfz13_5⟩ := Cs.fz6 BK138.out; have hfz13_6 := blk_frozen BK138.out 6) | (go_at_call 119; (with_reducible refine (value_Right.calls k a0_2 a0_3 a0_4 true _ A7.out).mono ?_); rintro e w14 ⟨rfl, hb⟩; have n0_ := Cs.am (Cs.kb (g := gb138) (o := .cells #[.int .i64 a0_0, .int .i64 a0_1, .int .i64 a0_2, .int .i64 a0_3, .string a0_4, .string a0_5, .slice A0_6 l0_6.length c0_6] 26 (0, 0)) (by (with_reducible repeat (first | refine Cs.kn ?_ _ | refine Cs.kd1 ?_ | refine Cs.ka ?_ _)); exact BK138.out) hb); have n1_ := Cs.am (Cs.bp (by repeat (first | (with_reducible first | exact HB.out | apply Cs.ba | apply Cs.bn | apply Cs.bd | refine Cs.bs ?_ GE138.out) | exact HB.out)) hb); clear BK138; clear HB; have BK138 := n0_; have HB := n1_; clear n0_ n1_; (try clear hb); (try clear hb2); (try clear hk); (try clear hi); obtain ⟨hcz15_0, hcz15_1, hcz15_2, hcz15_3, hcz15_4, hcz15_5, hcz15_6⟩ := Cs.cs7 BK138.out; obtain ⟨hfz15_0, hfz15_1, hfz15_2, hfz15_3, hfz15_4, hfz15_5⟩ := Cs.fz6 BK138.out; have hfz15_6 := blk_frozen BK138.out 6))
            go_ret
            exact ⟨by first | rfl | (simp [errW_none, errW_some] <;> rfl) | (simp [*, errW_none, errW_some] <;> rfl), by repeat (first | (with_reducible first | exact HB.out | apply Cs.ba | apply Cs.bn | apply Cs.bd | refine Cs.bs ?_ GE138.out) | exact HB.out)⟩
          · rw [if_neg c9] at H
            have c9b0 : (a0_2 == 1) = false := beq_eq_false_iff_ne.mpr c9
            have c9b1 : (a0_2 != 1) = true := bne_iff_ne.mpr c9
            obtain rfl := Option.some.inj H
            go_enter Try.func105, Try.ntmps105
            go_wp2_with (first | ((with_reducible refine gate_dst (N := 2) rfl ?_); refine box_event ?hg (N := 2) ?hd (cs := #[.int .i64 a0_0, .int .i64 a0_1, .int .i64 a0_2, .int .i64 a0_3, .string a0_4, .string a0_5, .slice A0_6 l0_6.length c0_6]) (t := 26) ?hr ?_; (case hd => rfl); (case hg => rfl); (case hr => first | (go_simp; done) | (go_simp; rfl)); intro gb138 hg w16 hbox hb; have n0_ := Cs.am (Cs.bp (by repeat (first | (with_reducible first | exact HB.out | apply Cs.ba | apply Cs.bn | apply Cs.bd) | exact HB.out)) hb); have n1_ := Cs.am (hbox); have n2_ := Cs.am ((by rw [hg]; exact (Cs.bz (by repeat (first | (with_reducible first | exact HB.out | apply Cs.ba | apply Cs.bn | apply Cs.bd) | exact HB.out))) : w.heap.size ≤ gb138)); have n3_ := Cs.am ((by rw [hg]; exact (Cs.bz (by repeat (first | (with_reducible first | exact HB.out | apply Cs.ba | apply Cs.bn | apply Cs.bd) | exact HB.out))) : w.heap.size ≤ gb138)); clear HB; have HB := n0_; have BK138 := n1_; have GW138 := n2_; have GE138 := n3_; clear n0_ n1_ n2_ n3_; clear hb hbox hg; obtain ⟨hcz17_0, hcz17_1, hcz17_2, hcz17_3, hcz17_4, hcz17_5, hcz17_6⟩ := Cs.cs7 BK138.out; obtain ⟨hfz17_0, hfz17_1, hfz17_2, hfz17_3, hfz17_4, hfz17_5⟩ := Cs.fz6 BK138.out; have hfz17_6 := blk_frozen BK138.out 6) | (go_at_call 132; (with_reducible refine (expr_bare.calls a0_0 a0_1 a0_2 a0_3 a0_4 a0_5 _ _ l0_6 false true false true _ ?side1 ?side2 A5.out).mono ?_); (case side1 => repeat (first | exact (Cs.cb HR0_6.out HB.out) | (with_reducible refine Cs.ca ?_ _) | (with_reducible refine Cs.cn ?_ _) | (with_reducible refine Cs.cd1 ?_))); (case side2 => exact HC0_6.out); rintro e w18 ⟨rfl, hb⟩; have n0_ := Cs.am (Cs.kb (g := gb138) (o := .cells #[.int .i64 a0_0, .int .i64 a0_1, .int .i64 a0_2, .int .i64 a0_3, .string a0_4, .string a0_5, .slice A0_6 l0_6.length c0_6] 26 (0, 0)) (by (with_reducible repeat (first | refine Cs.kn ?_ _ | refine Cs.kd1 ?_ | refine Cs.ka ?_ _)); exact BK138.out) hb); have n1_ := Cs.am (Cs.bp (by repeat (first | (with_reducible first | exact HB.out | apply Cs.ba | apply Cs.bn | apply Cs.bd | refine Cs.bs ?_ GE138.out) | exact HB.out)) hb); clear BK138; clear HB; have BK138 := n0_; have HB := n1_; clear n0_ n1_; (try clear hb); (try clear hb2); (try clear hk); (try clear hi); obtain ⟨hcz19_0, hcz19_1, hcz19_2, hcz19_3, hcz19_4, hcz19_5, hcz19_6⟩ := Cs.cs7 BK138.out; obtain ⟨hfz19_0, hfz19_1, hfz19_2, hfz19_3, hfz19_4, hfz19_5⟩ := Cs.fz6 BK138.out; have hfz19_6 := blk_frozen BK138.out 6) | (go_at_call 119; (with_reducible refine (value_Right.calls k a0_2 a0_3 a0_4 true _ A7.out).mono ?_); rintro e w20 ⟨rfl, hb⟩; have n0_ := Cs.am (Cs.kb (g := gb138) (o := .cells #[.int .i64 a0_0, .int .i64 a0_1, .int .i64 a0_2, .int .i64 a0_3, .string a0_4, .string a0_5, .slice A0_6 l0_6.length c0_6] 26 (0, 0)) (by (with_reducible repeat (first | refine Cs.kn ?_ _ | refine Cs.kd1 ?_ | refine Cs.ka ?_ _)); exact BK138.out) hb); have n1_ := Cs.am (Cs.bp (by repeat (first | (with_reducible first | exact HB.out | apply Cs.ba | apply Cs.bn | apply Cs.bd | refine Cs.bs ?_ GE138.out) | exact HB.out)) hb); clear BK138; clear HB; have BK138 := n0_; have HB := n1_; clear n0_ n1_; (try clear hb); (try clear hb2); (try clear hk); (try clear hi); obtain ⟨hcz21_0, hcz21_1, hcz21_2, hcz21_3, hcz21_4, hcz21_5, hcz21_6⟩ := Cs.cs7 BK138.out; obtain ⟨hfz21_0, hfz21_1, hfz21_2, hfz21_3, hfz21_4, hfz21_5⟩ := Cs.fz6 BK138.out; have hfz21_6 := blk_frozen BK138.out 6))
            go_ret
            exact ⟨by first | rfl | (simp [errW_none, errW_some] <;> rfl) | (simp [*, errW_none, errW_some] <;> rfl), by repeat (first | (with_reducible first | exact HB.out | apply Cs.ba | apply Cs.bn | apply Cs.bd | refine Cs.bs ?_ GE138.out) | exact HB.out)⟩
        · replace c8 := Bool.eq_false_iff.mpr c8
          subst c8
          have H1 : (some false) = some r := by rw [if_neg (show ¬ (false = true) by decide)] at H; exact H
          clear H
          have H := H1
          clear H1
          obtain rfl := Option.some.inj H
          go_enter Try.func105, Try.ntmps105
          go_wp2_with (first | ((with_reducible refine gate_dst (N := 2) rfl ?_); refine box_event ?hg (N := 2) ?hd (cs := #[.int .i64 a0_0, .int .i64 a0_1, .int .i64 a0_2, .int .i64 a0_3, .string a0_4, .string a0_5, .slice A0_6 l0_6.length c0_6]) (t := 26) ?hr ?_; (case hd => rfl); (case hg => rfl); (case hr => first | (go_simp; done) | (go_simp; rfl)); intro gb138 hg w22 hbox hb; have n0_ := Cs.am (Cs.bp (by repeat (first | (with_reducible first | exact HB.out | apply Cs.ba | apply Cs.bn | apply Cs.bd) | exact HB.out)) hb); have n1_ := Cs.am (hbox); have n2_ := Cs.am ((by rw [hg]; exact (Cs.bz (by repeat (first | (with_reducible first | exact HB.out | apply Cs.ba | apply Cs.bn | apply Cs.bd) | exact HB.out))) : w.heap.size ≤ gb138)); have n3_ := Cs.am ((by rw [hg]; exact (Cs.bz (by repeat (first | (with_reducible first | exact HB.out | apply Cs.ba | apply Cs.bn | apply Cs.bd) | exact HB.out))) : w.heap.size ≤ gb138)); clear HB; have HB := n0_; have BK138 := n1_; have GW138 := n2_; have GE138 := n3_; clear n0_ n1_ n2_ n3_; clear hb hbox hg; obtain ⟨hcz23_0, hcz23_1, hcz23_2, hcz23_3, hcz23_4, hcz23_5, hcz23_6⟩ := Cs.cs7 BK138.out; obtain ⟨hfz23_0, hfz23_1, hfz23_2, hfz23_3, hfz23_4, hfz23_5⟩ := Cs.fz6 BK138.out; have hfz23_6 := blk_frozen BK138.out 6) | (go_at_call 132; (with_reducible refine (expr_bare.calls a0_0 a0_1 a0_2 a0_3 a0_4 a0_5 _ _ l0_6 false true false true _ ?side1 ?side2 A5.out).mono ?_); (case side1 => repeat (first | exact (Cs.cb HR0_6.out HB.out) | (with_reducible refine Cs.ca ?_ _) | (with_reducible refine Cs.cn ?_ _) | (with_reducible refine Cs.cd1 ?_))); (case side2 => exact HC0_6.out); rintro e w24 ⟨rfl, hb⟩; have n0_ := Cs.am (Cs.kb (g := gb138) (o := .cells #[.int .i64 a0_0, .int .i64 a0_1, .int .i64 a0_2, .int .i64 a0_3, .string a0_4, .string a0_5, .slice A0_6 l0_6.length c0_6] 26 (0, 0)) (by (with_reducible repeat (first | refine Cs.kn ?_ _ | refine Cs.kd1 ?_ | refine Cs.ka ?_ _)); exact BK138.out) hb); have n1_ := Cs.am (Cs.bp (by repeat (first | (with_reducible first | exact HB.out | apply Cs.ba | apply Cs.bn | apply Cs.bd | refine Cs.bs ?_ GE138.out) | exact HB.out)) hb); clear BK138; clear HB; have BK138 := n0_; have HB := n1_; clear n0_ n1_; (try clear hb); (try clear hb2); (try clear hk); (try clear hi); obtain ⟨hcz25_0, hcz25_1, hcz25_2, hcz25_3, hcz25_4, hcz25_5, hcz25_6⟩ := Cs.cs7 BK138.out; obtain ⟨hfz25_0, hfz25_1, hfz25_2, hfz25_3, hfz25_4, hfz25_5⟩ := Cs.fz6 BK138.out; have hfz25_6 := blk_frozen BK138.out 6) | (go_at_call 119; (with_reducible refine (value_Right.calls k a0_2 a0_3 a0_4 false _ A7.out).mono ?_); rintro e w26 ⟨rfl, hb⟩; have n0_ := Cs.am (Cs.kb (g := gb138) (o := .cells #[.int .i64 a0_0, .int .i64 a0_1, .int .i64 a0_2, .int .i64 a0_3, .string a0_4, .string a0_5, .slice A0_6 l0_6.length c0_6] 26 (0, 0)) (by (with_reducible repeat (first | refine Cs.kn ?_ _ | refine Cs.kd1 ?_ | refine Cs.ka ?_ _)); exact BK138.out) hb); have n1_ := Cs.am (Cs.bp (by repeat (first | (with_reducible first | exact HB.out | apply Cs.ba | apply Cs.bn | apply Cs.bd | refine Cs.bs ?_ GE138.out) | exact HB.out)) hb); clear BK138; clear HB; have BK138 := n0_; have HB := n1_; clear n0_ n1_; (try clear hb); (try clear hb2); (try clear hk); (try clear hi)))
          go_ret
          exact ⟨by first | rfl | (simp [errW_none, errW_some] <;> rfl) | (simp [*, errW_none, errW_some] <;> rfl), by repeat (first | (with_reducible first | exact HB.out | apply Cs.ba | apply Cs.bn | apply Cs.bd | refine Cs.bs ?_ GE138.out) | exact HB.out)⟩
      · replace c6 := Bool.eq_false_iff.mpr c6
        subst c6
        have H1 : (some false) = some r := by rw [if_neg (show ¬ (false = true) by decide)] at H; exact H
        clear H
        have H := H1
        clear H1
        obtain rfl := Option.some.inj H
        go_enter Try.func105, Try.ntmps105
        go_wp2_with (first | ((with_reducible refine gate_dst (N := 2) rfl ?_); refine box_event ?hg (N := 2) ?hd (cs := #[.int .i64 a0_0, .int .i64 a0_1, .int .i64 a0_2, .int .i64 a0_3, .string a0_4, .string a0_5, .slice A0_6 l0_6.length c0_6]) (t := 26) ?hr ?_; (case hd => rfl); (case hg => rfl); (case hr => first | (go_simp; done) | (go_simp; rfl)); intro gb138 hg w27 hbox hb; have n0_ := Cs.am (Cs.bp (by repeat (first | (with_reducible first | exact HB.out | apply Cs.ba | apply Cs.bn | apply Cs.bd) | exact HB.out)) hb); have n1_ := Cs.am (hbox); have n2_ := Cs.am ((by rw [hg]; exact (Cs.bz (by repeat (first | (with_reducible first | exact HB.out | apply Cs.ba | apply Cs.bn | apply Cs.bd) | exact HB.out))) : w.heap.size ≤ gb138)); have n3_ := Cs.am ((by rw [hg]; exact (Cs.bz (by repeat (first | (with_reducible first | exact HB.out | apply Cs.ba | apply Cs.bn | apply Cs.bd) | exact HB.out))) : w.heap.size ≤ gb138)); clear HB; have HB := n0_; have BK138 := n1_; have GW138 := n2_; have GE138 := n3_; clear n0_ n1_ n2_ n3_; clear hb hbox hg; obtain ⟨hcz28_0, hcz28_1, hcz28_2, hcz28_3, hcz28_4, hcz28_5, hcz28_6⟩ := Cs.cs7 BK138.out; obtain ⟨hfz28_0, hfz28_1, hfz28_2, hfz28_3, hfz28_4, hfz28_5⟩ := Cs.fz6 BK138.out; have hfz28_6 := blk_frozen BK138.out 6) | (go_at_call 132; (with_reducible refine (expr_bare.calls a0_0 a0_1 a0_2 a0_3 a0_4 a0_5 _ _ l0_6 false true false false _ ?side1 ?side2 A5.out).mono ?_); (case side1 => repeat (first | exact (Cs.cb HR0_6.out HB.out) | (with_reducible refine Cs.ca ?_ _) | (with_reducible refine Cs.cn ?_ _) | (with_reducible refine Cs.cd1 ?_))); (case side2 => exact HC0_6.out); rintro e w29 ⟨rfl, hb⟩; have n0_ := Cs.am (Cs.kb (g := gb138) (o := .cells #[.int .i64 a0_0, .int .i64 a0_1, .int .i64 a0_2, .int .i64 a0_3, .string a0_4, .string a0_5, .slice A0_6 l0_6.length c0_6] 26 (0, 0)) (by (with_reducible repeat (first | refine Cs.kn ?_ _ | refine Cs.kd1 ?_ | refine Cs.ka ?_ _)); exact BK138.out) hb); have n1_ := Cs.am (Cs.bp (by repeat (first | (with_reducible first | exact HB.out | apply Cs.ba | apply Cs.bn | apply Cs.bd | refine Cs.bs ?_ GE138.out) | exact HB.out)) hb); clear BK138; clear HB; have BK138 := n0_; have HB := n1_; clear n0_ n1_; (try clear hb); (try clear hb2); (try clear hk); (try clear hi)))
        go_ret
        exact ⟨by first | rfl | (simp [errW_none, errW_some] <;> rfl) | (simp [*, errW_none, errW_some] <;> rfl), by repeat (first | (with_reducible first | exact HB.out | apply Cs.ba | apply Cs.bn | apply Cs.bd | refine Cs.bs ?_ GE138.out) | exact HB.out)⟩
    · rw [if_neg c4] at H
      have c4b0 : ((l0_6.length : Int) == 0) = false := beq_eq_false_iff_ne.mpr c4
      have c4b1 : ((l0_6.length : Int) != 0) = true := bne_iff_ne.mpr c4
      have c4b2 : ¬ (l0_6 = []) := fun h_ => c4 (by rw [h_]; rfl)
      obtain rfl := Option.some.inj H
      go_enter Try.func105, Try.ntmps105
      go_wp2_with (first | ((with_reducible refine gate_dst (N := 2) rfl ?_); refine box_event ?hg (N := 2) ?hd (cs := #[.int .i64 a0_0, .int .i64 a0_1, .int .i64 a0_2, .int .i64 a0_3, .string a0_4, .string a0_5, .slice A0_6 l0_6.length c0_6]) (t := 26) ?hr ?_; (case hd => rfl); (case hg => rfl); (case hr => first | (go_simp; done) | (go_simp; rfl)); intro gb138 hg w30 hbox hb; have n0_ := Cs.am (Cs.bp (by repeat (first | (with_reducible first | exact HB.out | apply Cs.ba | apply Cs.bn | apply Cs.bd) | exact HB.out)) hb); have n1_ := Cs.am (hbox); have n2_ := Cs.am ((by rw [hg]; exact (Cs.bz (by repeat (first | (with_reducible first | exact HB.out | apply Cs.ba | apply Cs.bn | apply Cs.bd) | exact HB.out))) : w.heap.size ≤ gb138)); have n3_ := Cs.am ((by rw [hg]; exact (Cs.bz (by repeat (first | (with_reducible first | exact HB.out | apply Cs.ba | apply Cs.bn | apply Cs.bd) | exact HB.out))) : w.heap.size ≤ gb138)); clear HB; have HB := n0_; have BK138 := n1_; have GW138 := n2_; have GE138 := n3_; clear n0_ n1_ n2_ n3_; clear hb hbox hg; obtain ⟨hcz31_0, hcz31_1, hcz31_2, hcz31_3, hcz31_4, hcz31_5, hcz31_6⟩ := Cs.cs7 BK138.out; obtain ⟨hfz31_0, hfz31_1, hfz31_2, hfz31_3, hfz31_4, hfz31_5⟩ := Cs.fz6 BK138.out; have hfz31_6 := blk_frozen BK138.out 6))
      go_ret
      exact ⟨by first | rfl | (simp [errW_none, errW_some] <;> rfl) | (simp [*, errW_none, errW_some] <;> rfl), by repeat (first | (with_reducible first | exact HB.out | apply Cs.ba | apply Cs.bn | apply Cs.bd | refine Cs.bs ?_ GE138.out) | exact HB.out)⟩
  · rw [if_neg c3] at H
    have c3b0 : (a0_0 == 1) = false := beq_eq_false_iff_ne.mpr c3
    have c3b1 : (a0_0 != 1) = true := bne_iff_ne.mpr c3
    by_cases c32 : a0_0 = 2
    · rw [if_pos c32] at H
      have c32b0 : (a0_0 == 2) = true := beq_iff_eq.mpr c32
      have c32b1 : (a0_0 != 2) = false := bne_eq_false_iff_eq.mpr c32
      clear c32
      by_cases c33 : (l0_6.length : Int) = 0
      · rw [if_pos c33] at H
        have c33b0 : ((l0_6.length : Int) == 0) = true := beq_iff_eq.mpr c33
        have c33b1 : ((l0_6.length : Int) != 0) = false := bne_eq_false_iff_eq.mpr c33
        clear c33
        replace H := Option.bind_eq_some_iff.mp H
        obtain ⟨t141, A340, H⟩ := H
        replace H : (if t141 = true then ((lex_IsName.f k a0_5).bind fun t142 => (some t142)) else (some false)) = some r := H
        have A34 := Cs.am A340
        clear A340
        by_cases c35 : t141 = true
        · subst c35
          have H1 : ((lex_IsName.f k a0_5).bind fun t142 => (some t142)) = some r := by rw [if_pos rfl] at H; exact H
          clear H
          have H := H1
          clear H1
          replace H := Option.bind_eq_some_iff.mp H
          obtain ⟨t142, A360, H⟩ := H
          replace H : (some t142) = some r := H
          have A36 := Cs.am A360
          clear A360
          obtain rfl := Option.some.inj H
          go_enter Try.func105, Try.ntmps105
          go_wp2_with (first | ((with_reducible refine gate_dst (N := 2) rfl ?_); refine box_event ?hg (N := 2) ?hd (cs := #[.int .i64 a0_0, .int .i64 a0_1, .int .i64 a0_2, .int .i64 a0_3, .string a0_4, .string a0_5, .slice A0_6 l0_6.length c0_6]) (t := 26) ?hr ?_; (case hd => rfl); (case hg => rfl); (case hr => first | (go_simp; done) | (go_simp; rfl)); intro gb138 hg w37 hbox hb; have n0_ := Cs.am (Cs.bp (by repeat (first | (with_reducible first | exact HB.out | apply Cs.ba | apply Cs.bn | apply Cs.bd) | exact HB.out)) hb); have n1_ := Cs.am (hbox); have n2_ := Cs.am ((by rw [hg]; exact (Cs.bz (by repeat (first | (with_reducible first | exact HB.out | apply Cs.ba | apply Cs.bn | apply Cs.bd) | exact HB.out))) : w.heap.size ≤ gb138)); have n3_ := Cs.am ((by rw [hg]; exact (Cs.bz (by repeat (first | (with_reducible first | exact HB.out | apply Cs.ba | apply Cs.bn | apply Cs.bd) | exact HB.out))) : w.heap.size ≤ gb138)); clear HB; have HB := n0_; have BK138 := n1_; have GW138 := n2_; have GE138 := n3_; clear n0_ n1_ n2_ n3_; clear hb hbox hg; obtain ⟨hcz38_0, hcz38_1, hcz38_2, hcz38_3, hcz38_4, hcz38_5, hcz38_6⟩ := Cs.cs7 BK138.out; obtain ⟨hfz38_0, hfz38_1, hfz38_2, hfz38_3, hfz38_4, hfz38_5⟩ := Cs.fz6 BK138.out; have hfz38_6 := blk_frozen BK138.out 6) | (go_at_call 132; (with_reducible refine (expr_bare.calls a0_0 a0_1 a0_2 a0_3 a0_4 a0_5 _ _ l0_6 false false true true _ ?side1 ?side2 A34.out).mono ?_); (case side1 => repeat (first | exact (Cs.cb HR0_6.out HB.out) | (with_reducible refine Cs.ca ?_ _) | (with_reducible refine Cs.cn ?_ _) | (with_reducible refine Cs.cd1 ?_))); (case side2 => exact HC0_6.out); rintro e w39 ⟨rfl, hb⟩; have n0_ := Cs.am (Cs.kb (g := gb138) (o := .cells #[.int .i64 a0_0, .int .i64 a0_1, .int .i64 a0_2, .int .i64 a0_3, .string a0_4, .string a0_5, .slice A0_6 l0_6.length c0_6] 26 (0, 0)) (by (with_reducible repeat (first | refine Cs.kn ?_ _ | refine Cs.kd1 ?_ | refine Cs.ka ?_ _)); exact BK138.out) hb); have n1_ := Cs.am (Cs.bp (by repeat (first | (with_reducible first | exact HB.out | apply Cs.ba | apply Cs.bn | apply Cs.bd | refine Cs.bs ?_ GE138.out) | exact HB.out)) hb); clear BK138; clear HB; have BK138 := n0_; have HB := n1_; clear n0_ n1_; (try clear hb); (try clear hb2); (try clear hk); (try clear hi); obtain ⟨hcz40_0, hcz40_1, hcz40_2, hcz40_3, hcz40_4, hcz40_5, hcz40_6⟩ := Cs.cs7 BK138.out; obtain ⟨hfz40_0, hfz40_1, hfz40_2, hfz40_3, hfz40_4, hfz40_5⟩ := Cs.fz6 BK138.out; have hfz40_6 := blk_frozen BK138.out 6) | (go_at_call 108; (with_reducible refine (lex_IsName.calls k a0_5 t142 _ A36.out).mono ?_); rintro e w41 ⟨rfl, hb⟩; have n0_ := Cs.am (Cs.kb (g := gb138) (o := .cells #[.int .i64 a0_0, .int .i64 a0_1, .int .i64 a0_2, .int .i64 a0_3, .string a0_4, .string a0_5, .slice A0_6 l0_6.length c0_6] 26 (0, 0)) (by (with_reducible repeat (first | refine Cs.kn ?_ _ | refine Cs.kd1 ?_ | refine Cs.ka ?_ _)); exact BK138.out) hb); have n1_ := Cs.am (Cs.bp (by repeat (first | (with_reducible first | exact HB.out | apply Cs.ba | apply Cs.bn | apply Cs.bd | refine Cs.bs ?_ GE138.out) | exact HB.out)) hb); clear BK138; clear HB; have BK138 := n0_; have HB := n1_; clear n0_ n1_; (try clear hb); (try clear hb2); (try clear hk); (try clear hi)))
          go_ret
          exact ⟨by first | rfl | (simp [errW_none, errW_some] <;> rfl) | (simp [*, errW_none, errW_some] <;> rfl), by repeat (first | (with_reducible first | exact HB.out | apply Cs.ba | apply Cs.bn | apply Cs.bd | refine Cs.bs ?_ GE138.out) | exact HB.out)⟩
        · replace c35 := Bool.eq_false_iff.mpr c35
          subst c35
          have H1 : (some false) = some r := by rw [if_neg (show ¬ (false = true) by decide)] at H; exact H
          clear H
          have H := H1
          clear H1
          obtain rfl := Option.some.inj H
          go_enter Try.func105, Try.ntmps105
          go_wp2_with (first | ((with_reducible refine gate_dst (N := 2) rfl ?_); refine box_event ?hg (N := 2) ?hd (cs := #[.int .i64 a0_0, .int .i64 a0_1, .int .i64 a0_2, .int .i64 a0_3, .string a0_4, .string a0_5, .slice A0_6 l0_6.length c0_6]) (t := 26) ?hr ?_; (case hd => rfl); (case hg => rfl); (case hr => first | (go_simp; done) | (go_simp; rfl)); intro gb138 hg w42 hbox hb; have n0_ := Cs.am (Cs.bp (by repeat (first | (with_reducible first | exact HB.out | apply Cs.ba | apply Cs.bn | apply Cs.bd) | exact HB.out)) hb); have n1_ := Cs.am (hbox); have n2_ := Cs.am ((by rw [hg]; exact (Cs.bz (by repeat (first | (with_reducible first | exact HB.out | apply Cs.ba | apply Cs.bn | apply Cs.bd) | exact HB.out))) : w.heap.size ≤ gb138)); have n3_ := Cs.am ((by rw [hg]; exact (Cs.bz (by repeat (first | (with_reducible first | exact HB.out | apply Cs.ba | apply Cs.bn | apply Cs.bd) | exact HB.out))) : w.heap.size ≤ gb138)); clear HB; have HB := n0_; have BK138 := n1_; have GW138 := n2_; have GE138 := n3_; clear n0_ n1_ n2_ n3_; clear hb hbox hg; obtain ⟨hcz43_0, hcz43_1, hcz43_2, hcz43_3, hcz43_4, hcz43_5, hcz43_6⟩ := Cs.cs7 BK138.out; obtain ⟨hfz43_0, hfz43_1, hfz43_2, hfz43_3, hfz43_4, hfz43_5⟩ := Cs.fz6 BK138.out; have hfz43_6 := blk_frozen BK138.out 6) | (go_at_call 132; (with_reducible refine (expr_bare.calls a0_0 a0_1 a0_2 a0_3 a0_4 a0_5 _ _ l0_6 false false true false _ ?side1 ?side2 A34.out).mono ?_); (case side1 => repeat (first | exact (Cs.cb HR0_6.out HB.out) | (with_reducible refine Cs.ca ?_ _) | (with_reducible refine Cs.cn ?_ _) | (with_reducible refine Cs.cd1 ?_))); (case side2 => exact HC0_6.out); rintro e w44 ⟨rfl, hb⟩; have n0_ := Cs.am (Cs.kb (g := gb138) (o := .cells #[.int .i64 a0_0, .int .i64 a0_1, .int .i64 a0_2, .int .i64 a0_3, .string a0_4, .string a0_5, .slice A0_6 l0_6.length c0_6] 26 (0, 0)) (by (with_reducible repeat (first | refine Cs.kn ?_ _ | refine Cs.kd1 ?_ | refine Cs.ka ?_ _)); exact BK138.out) hb); have n1_ := Cs.am (Cs.bp (by repeat (first | (with_reducible first | exact HB.out | apply Cs.ba | apply Cs.bn | apply Cs.bd | refine Cs.bs ?_ GE138.out) | exact HB.out)) hb); clear BK138; clear HB; have BK138 := n0_; have HB := n1_; clear n0_ n1_; (try clear hb); (try clear hb2); (try clear hk); (try clear hi)))
          go_ret
          exact ⟨by first | rfl | (simp [errW_none, errW_some] <;> rfl) | (simp [*, errW_none, errW_some] <;> rfl), by repeat (first | (with_reducible first | exact HB.out | apply Cs.ba | apply Cs.bn | apply Cs.bd | refine Cs.bs ?_ GE138.out) | exact HB.out)⟩
      · rw [if_neg c33] at H
        have c33b0 : ((l0_6.length : Int) == 0) = false := beq_eq_false_iff_ne.mpr c33
        have c33b1 : ((l0_6.length : Int) != 0) = true := bne_iff_ne.mpr c33
        have c33b2 : ¬ (l0_6 = []) := fun h_ => c33 (by rw [h_]; rfl)
        obtain rfl := Option.some.inj H
        go_enter Try.func105, Try.ntmps105
        go_wp2_with (first | ((with_reducible refine gate_dst (N := 2) rfl ?_); refine box_event ?hg (N := 2) ?hd (cs := #[.int .i64 a0_0, .int .i64 a0_1, .int .i64 a0_2, .int .i64 a0_3, .string a0_4, .string a0_5, .slice A0_6 l0_6.length c0_6]) (t := 26) ?hr ?_; (case hd => rfl); (case hg => rfl); (case hr => first | (go_simp; done) | (go_simp; rfl)); intro gb138 hg w45 hbox hb; have n0_ := Cs.am (Cs.bp (by repeat (first | (with_reducible first | exact HB.out | apply Cs.ba | apply Cs.bn | apply Cs.bd) | exact HB.out)) hb); have n1_ := Cs.am (hbox); have n2_ := Cs.am ((by rw [hg]; exact (Cs.bz (by repeat (first | (with_reducible first | exact HB.out | apply Cs.ba | apply Cs.bn | apply Cs.bd) | exact HB.out))) : w.heap.size ≤ gb138)); have n3_ := Cs.am ((by rw [hg]; exact (Cs.bz (by repeat (first | (with_reducible first | exact HB.out | apply Cs.ba | apply Cs.bn | apply Cs.bd) | exact HB.out))) : w.heap.size ≤ gb138)); clear HB; have HB := n0_; have BK138 := n1_; have GW138 := n2_; have GE138 := n3_; clear n0_ n1_ n2_ n3_; clear hb hbox hg; obtain ⟨hcz46_0, hcz46_1, hcz46_2, hcz46_3, hcz46_4, hcz46_5, hcz46_6⟩ := Cs.cs7 BK138.out; obtain ⟨hfz46_0, hfz46_1, hfz46_2, hfz46_3, hfz46_4, hfz46_5⟩ := Cs.fz6 BK138.out; have hfz46_6 := blk_frozen BK138.out 6))
        go_ret
        exact ⟨by first | rfl | (simp [errW_none, errW_some] <;> rfl) | (simp [*, errW_none, errW_some] <;> rfl), by repeat (first | (with_reducible first | exact HB.out | apply Cs.ba | apply Cs.bn | apply Cs.bd | refine Cs.bs ?_ GE138.out) | exact HB.out)⟩
    · rw [if_neg c32] at H
      have c32b0 : (a0_0 == 2) = false := beq_eq_false_iff_ne.mpr c32
      have c32b1 : (a0_0 != 2) = true := bne_iff_ne.mpr c32
      by_cases c47 : a0_0 = 3
      · rw [if_pos c47] at H
        have c47b0 : (a0_0 == 3) = true := beq_iff_eq.mpr c47
        have c47b1 : (a0_0 != 3) = false := bne_eq_false_iff_eq.mpr c47
        clear c47
        by_cases c48 : (l0_6.length : Int) = 0
        · rw [if_pos c48] at H
          have c48b0 : ((l0_6.length : Int) == 0) = true := beq_iff_eq.mpr c48
          have c48b1 : ((l0_6.length : Int) != 0) = false := bne_eq_false_iff_eq.mpr c48
          clear c48
          replace H := Option.bind_eq_some_iff.mp H
          obtain ⟨t143, A490, H⟩ := H
          replace H : (if t143 = true then (if a0_1 ≥ 1 then (some (decide (a0_1 ≤ 6))) else (some false)) else (some false)) = some r := H
          have A49 := Cs.am A490
          clear A490
          by_cases c50 : t143 = true
          · subst c50
            have H1 : (if a0_1 ≥ 1 then (some (decide (a0_1 ≤ 6))) else (some false)) = some r := by rw [if_pos rfl] at H; exact H
            clear H
            have H := H1
            clear H1
            by_cases c51 : a0_1 ≥ 1
            · rw [if_pos c51] at H
              have c51b0 : decide (1 ≤ a0_1) = true := decide_eq_true c51
              clear c51
              obtain rfl := Option.some.inj H
              go_enter Try.func105, Try.ntmps105
              go_wp2_with (first | ((with_reducible refine gate_dst (N := 2) rfl ?_); refine box_event ?hg (N := 2) ?hd (cs := #[.int .i64 a0_0, .int .i64 a0_1, .int .i64 a0_2, .int .i64 a0_3, .string a0_4, .string a0_5, .slice A0_6 l0_6.length c0_6]) (t := 26) ?hr ?_; (case hd => rfl); (case hg => rfl); (case hr => first | (go_simp; done) | (go_simp; rfl)); intro gb138 hg w52 hbox hb; have n0_ := Cs.am (Cs.bp (by repeat (first | (with_reducible first | exact HB.out | apply Cs.ba | apply Cs.bn | apply Cs.bd) | exact HB.out)) hb); have n1_ := Cs.am (hbox); have n2_ := Cs.am ((by rw [hg]; exact (Cs.bz (by repeat (first | (with_reducible first | exact HB.out | apply Cs.ba | apply Cs.bn | apply Cs.bd) | exact HB.out))) : w.heap.size ≤ gb138)); have n3_ := Cs.am ((by rw [hg]; exact (Cs.bz (by repeat (first | (with_reducible first | exact HB.out | apply Cs.ba | apply Cs.bn | apply Cs.bd) | exact HB.out))) : w.heap.size ≤ gb138)); clear HB; have HB := n0_; have BK138 := n1_; have GW138 := n2_; have GE138 := n3_; clear n0_ n1_ n2_ n3_; clear hb hbox hg; obtain ⟨hcz53_0, hcz53_1, hcz53_2, hcz53_3, hcz53_4, hcz53_5, hcz53_6⟩ := Cs.cs7 BK138.out; obtain ⟨hfz53_0, hfz53_1, hfz53_2, hfz53_3, hfz53_4, hfz53_5⟩ := Cs.fz6 BK138.out; have hfz53_6 := blk_frozen BK138.out 6) | (go_at_call 132; (with_reducible refine (expr_bare.calls a0_0 a0_1 a0_2 a0_3 a0_4 a0_5 _ _ l0_6 true false false true _ ?side1 ?side2 A49.out).mono ?_); (case side1 => repeat (first | exact (Cs.cb HR0_6.out HB.out) | (with_reducible refine Cs.ca ?_ _) | (with_reducible refine Cs.cn ?_ _) | (with_reducible refine Cs.cd1 ?_))); (case side2 => exact HC0_6.out); rintro e w54 ⟨rfl, hb⟩; have n0_ := Cs.am (Cs.kb (g := gb138) (o := .cells #[.int .i64 a0_0, .int .i64 a0_1, .int .i64 a0_2, .int .i64 a0_3, .string a0_4, .string a0_5, .slice A0_6 l0_6.length c0_6] 26 (0, 0)) (by (with_reducible repeat (first | refine Cs.kn ?_ _ | refine Cs.kd1 ?_ | refine Cs.ka ?_ _)); exact BK138.out) hb); have n1_ := Cs.am (Cs.bp (by repeat (first | (with_reducible first | exact HB.out | apply Cs.ba | apply Cs.bn | apply Cs.bd | refine Cs.bs ?_ GE138.out) | exact HB.out)) hb); clear BK138; clear HB; have BK138 := n0_; have HB := n1_; clear n0_ n1_; (try clear hb); (try clear hb2); (try clear hk); (try clear hi); obtain ⟨hcz55_0, hcz55_1, hcz55_2, hcz55_3, hcz55_4, hcz55_5, hcz55_6⟩ := Cs.cs7 BK138.out; obtain ⟨hfz55_0, hfz55_1, hfz55_2, hfz55_3, hfz55_4, hfz55_5⟩ := Cs.fz6 BK138.out; have hfz55_6 := blk_frozen BK138.out 6))
              go_ret
              exact ⟨by first | rfl | (simp [errW_none, errW_some] <;> rfl) | (simp [*, errW_none, errW_some] <;> rfl), by repeat (first | (with_reducible first | exact HB.out | apply Cs.ba | apply Cs.bn | apply Cs.bd | refine Cs.bs ?_ GE138.out) | exact HB.out)⟩
            · rw [if_neg c51] at H
              have c51b0 : decide (1 ≤ a0_1) = false := decide_eq_false c51
              clear c51
              obtain rfl := Option.some.inj H
              go_enter Try.func105, Try.ntmps105
              go_wp2_with (first | ((with_reducible refine gate_dst (N := 2) rfl ?_); refine box_event ?hg (N := 2) ?hd (cs := #[.int .i64 a0_0, .int .i64 a0_1, .int .i64 a0_2, .int .i64 a0_3, .string a0_4, .string a0_5, .slice A0_6 l0_6.length c0_6]) (t := 26) ?hr ?_; (case hd => rfl); (case hg => rfl); (case hr => first | (go_simp; done) | (go_simp; rfl)); intro gb138 hg w56 hbox hb; have n0_ := Cs.am (Cs.bp (by repeat (first | (with_reducible first | exact HB.out | apply Cs.ba | apply Cs.bn | apply Cs.bd) | exact HB.out)) hb); have n1_ := Cs.am (hbox); have n2_ := Cs.am ((by rw [hg]; exact (Cs.bz (by repeat (first | (with_reducible first | exact HB.out | apply Cs.ba | apply Cs.bn | apply Cs.bd) | exact HB.out))) : w.heap.size ≤ gb138)); have n3_ := Cs.am ((by rw [hg]; exact (Cs.bz (by repeat (first | (with_reducible first | exact HB.out | apply Cs.ba | apply Cs.bn | apply Cs.bd) | exact HB.out))) : w.heap.size ≤ gb138)); clear HB; have HB := n0_; have BK138 := n1_; have GW138 := n2_; have GE138 := n3_; clear n0_ n1_ n2_ n3_; clear hb hbox hg; obtain ⟨hcz57_0, hcz57_1, hcz57_2, hcz57_3, hcz57_4, hcz57_5, hcz57_6⟩ := Cs.cs7 BK138.out; obtain ⟨hfz57_0, hfz57_1, hfz57_2, hfz57_3, hfz57_4, hfz57_5⟩ := Cs.fz6 BK138.out; have hfz57_6 := blk_frozen BK138.out 6) | (go_at_call 132; (with_reducible refine (expr_bare.calls a0_0 a0_1 a0_2 a0_3 a0_4 a0_5 _ _ l0_6 true false false true _ ?side1 ?side2 A49.out).mono ?_); (case side1 => repeat (first | exact (Cs.cb HR0_6.out HB.out) | (with_reducible refine Cs.ca ?_ _) | (with_reducible refine Cs.cn ?_ _) | (with_reducible refine Cs.cd1 ?_))); (case side2 => exact HC0_6.out); rintro e w58 ⟨rfl, hb⟩; have n0_ := Cs.am (Cs.kb (g := gb138) (o := .cells #[.int .i64 a0_0, .int .i64 a0_1, .int .i64 a0_2, .int .i64 a0_3, .string a0_4, .string a0_5, .slice A0_6 l0_6.length c0_6] 26 (0, 0)) (by (with_reducible repeat (first | refine Cs.kn ?_ _ | refine Cs.kd1 ?_ | refine Cs.ka ?_ _)); exact BK138.out) hb); have n1_ := Cs.am (Cs.bp (by repeat (first | (with_reducible first | exact HB.out | apply Cs.ba | apply Cs.bn | apply Cs.bd | refine Cs.bs ?_ GE138.out) | exact HB.out)) hb); clear BK138; clear HB; have BK138 := n0_; have HB := n1_; clear n0_ n1_; (try clear hb); (try clear hb2); (try clear hk); (try clear hi); obtain ⟨hcz59_0, hcz59_1, hcz59_2, hcz59_3, hcz59_4, hcz59_5, hcz59_6⟩ := Cs.cs7 BK138.out; obtain ⟨hfz59_0, hfz59_1, hfz59_2, hfz59_3, hfz59_4, hfz59_5⟩ := Cs.fz6 BK138.out; have hfz59_6 := blk_frozen BK138.out 6))
              go_ret
              exact ⟨by first | rfl | (simp [errW_none, errW_some] <;> rfl) | (simp [*, errW_none, errW_some] <;> rfl), by repeat (first | (with_reducible first | exact HB.out | apply Cs.ba | apply Cs.bn | apply Cs.bd | refine Cs.bs ?_ GE138.out) | exact HB.out)⟩
          · replace c50 := Bool.eq_false_iff.mpr c50
            subst c50
            have H1 : (some false) = some r := by rw [if_neg (show ¬ (false = true) by decide)] at H; exact H
            clear H
            have H := H1
            clear H1
            obtain rfl := Option.some.inj H
            go_enter Try.func105, Try.ntmps105
            go_wp2_with (first | ((with_reducible refine gate_dst (N := 2) rfl ?_); refine box_event ?hg (N := 2) ?hd (cs := #[.int .i64 a0_0, .int .i64 a0_1, .int .i64 a0_2, .int .i64 a0_3, .string a0_4, .string a0_5, .slice A0_6 l0_6.length c0_6]) (t := 26) ?hr ?_; (case hd => rfl); (case hg => rfl); (case hr => first | (go_simp; done) | (go_simp; rfl)); intro gb138 hg w60 hbox hb; have n0_ := Cs.am (Cs.bp (by repeat (first | (with_reducible first | exact HB.out | apply Cs.ba | apply Cs.bn | apply Cs.bd) | exact HB.out)) hb); have n1_ := Cs.am (hbox); have n2_ := Cs.am ((by rw [hg]; exact (Cs.bz (by repeat (first | (with_reducible first | exact HB.out | apply Cs.ba | apply Cs.bn | apply Cs.bd) | exact HB.out))) : w.heap.size ≤ gb138)); have n3_ := Cs.am ((by rw [hg]; exact (Cs.bz (by repeat (first | (with_reducible first | exact HB.out | apply Cs.ba | apply Cs.bn | apply Cs.bd) | exact HB.out))) : w.heap.size ≤ gb138)); clear HB; have HB := n0_; have BK138 := n1_; have GW138 := n2_; have GE138 := n3_; clear n0_ n1_ n2_ n3_; clear hb hbox hg; obtain ⟨hcz61_0, hcz61_1, hcz61_2, hcz61_3, hcz61_4, hcz61_5, hcz61_6⟩ := Cs.cs7 BK138.out; obtain ⟨hfz61_0, hfz61_1, hfz61_2, hfz61_3, hfz61_4, hfz61_5⟩ := Cs.fz6 BK138.out; have hfz61_6 := blk_frozen BK138.out 6) | (go_at_call 132; (with_reducible refine (expr_bare.calls a0_0 a0_1 a0_2 a0_3 a0_4 a0_5 _ _ l0_6 true false false false _ ?side1 ?side2 A49.out).mono ?_); (case side1 => repeat (first | exact (Cs.cb HR0_6.out HB.out) | (with_reducible refine Cs.ca ?_ _) | (with_reducible refine Cs.cn ?_ _) | (with_reducible refine Cs.cd1 ?_))); (case side2 => exact HC0_6.out); rintro e w62 ⟨rfl, hb⟩; have n0_ := Cs.am (Cs.kb (g := gb138) (o := .cells #[.int .i64 a0_0, .int .i64 a0_1, .int .i64 a0_2, .int .i64 a0_3, .string a0_4, .string a0_5, .slice A0_6 l0_6.length c0_6] 26 (0, 0)) (by (with_reducible repeat (first | refine Cs.kn ?_ _ | refine Cs.kd1 ?_ | refine Cs.ka ?_ _)); exact BK138.out) hb); have n1_ := Cs.am (Cs.bp (by repeat (first | (with_reducible first | exact HB.out | apply Cs.ba | apply Cs.bn | apply Cs.bd | refine Cs.bs ?_ GE138.out) | exact HB.out)) hb); clear BK138; clear HB; have BK138 := n0_; have HB := n1_; clear n0_ n1_; (try clear hb); (try clear hb2); (try clear hk); (try clear hi)))
            go_ret
            exact ⟨by first | rfl | (simp [errW_none, errW_some] <;> rfl) | (simp [*, errW_none, errW_some] <;> rfl), by repeat (first | (with_reducible first | exact HB.out | apply Cs.ba | apply Cs.bn | apply Cs.bd | refine Cs.bs ?_ GE138.out) | exact HB.out)⟩
        · rw [if_neg c48] at H
          have c48b0 : ((l0_6.length : Int) == 0) = false := beq_eq_false_iff_ne.mpr c48
          have c48b1 : ((l0_6.length : Int) != 0) = true := bne_iff_ne.mpr c48
          have c48b2 : ¬ (l0_6 = []) := fun h_ => c48 (by rw [h_]; rfl)
          obtain rfl := Option.some.inj H
          go_enter Try.func105, Try.ntmps105
          go_wp2_with (first | ((with_reducible refine gate_dst (N := 2) rfl ?_); refine box_event ?hg (N := 2) ?hd (cs := #[.int .i64 a0_0, .int .i64 a0_1, .int .i64 a0_2, .int .i64 a0_3, .string a0_4, .string a0_5, .slice A0_6 l0_6.length c0_6]) (t := 26) ?hr ?_; (case hd => rfl); (case hg => rfl); (case hr => first | (go_simp; done) | (go_simp; rfl)); intro gb138 hg w63 hbox hb; have n0_ := Cs.am (Cs.bp (by repeat (first | (with_reducible first | exact HB.out | apply Cs.ba | apply Cs.bn | apply Cs.bd) | exact HB.out)) hb); have n1_ := Cs.am (hbox); have n2_ := Cs.am ((by rw [hg]; exact (Cs.bz (by repeat (first | (with_reducible first | exact HB.out | apply Cs.ba | apply Cs.bn | apply Cs.bd) | exact HB.out))) : w.heap.size ≤ gb138)); have n3_ := Cs.am ((by rw [hg]; exact (Cs.bz (by repeat (first | (with_reducible first | exact HB.out | apply Cs.ba | apply Cs.bn | apply Cs.bd) | exact HB.out))) : w.heap.size ≤ gb138)); clear HB; have HB := n0_; have BK138 := n1_; have GW138 := n2_; have GE138 := n3_; clear n0_ n1_ n2_ n3_; clear hb hbox hg; obtain ⟨hcz64_0, hcz64_1, hcz64_2, hcz64_3, hcz64_4, hcz64_5, hcz64_6⟩ := Cs.cs7 BK138.out; obtain ⟨hfz64_0, hfz64_1, hfz64_2, hfz64_3, hfz64_4, hfz64_5⟩ := Cs.fz6 BK138.out; have hfz64_6 := blk_frozen BK138.out 6))
          go_ret
          exact ⟨by first | rfl | (simp [errW_none, errW_some] <;> rfl) | (simp [*, errW_none, errW_some] <;> rfl), by repeat (first | (with_reducible first | exact HB.out | apply Cs.ba | apply Cs.bn | apply Cs.bd | refine Cs.bs ?_ GE138.out) | exact HB.out)⟩
      · rw [if_neg c47] at H
        have c47b0 : (a0_0 == 3) = false := beq_eq_false_iff_ne.mpr c47
        have c47b1 : (a0_0 != 3) = true := bne_iff_ne.mpr c47
        by_cases c65 : a0_0 = 4
        · rw [if_pos c65] at H
          have c65b0 : (a0_0 == 4) = true := beq_iff_eq.mpr c65
          have c65b1 : (a0_0 != 4) = false := bne_eq_false_iff_eq.mpr c65
          clear c65
          by_cases c66 : (l0_6.length : Int) = 1
          · rw [if_pos c66] at H
            have c66b0 : ((l0_6.length : Int) == 1) = true := beq_iff_eq.mpr c66
            have c66b1 : ((l0_6.length : Int) != 1) = false := bne_eq_false_iff_eq.mpr c66
            clear c66
            replace H := Option.bind_eq_some_iff.mp H
            obtain ⟨t144, A670, H⟩ := H
            replace H : (if t144 = true then (if a0_1 ≥ 1 then (some (decide (a0_1 ≤ 4))) else (some false)) else (some false)) = some r := H
            have A67 := Cs.am A670
            clear A670
            by_cases c68 : t144 = true
            · subst c68
              have H1 : (if a0_1 ≥ 1 then (some (decide (a0_1 ≤ 4))) else (some false)) = some r := by rw [if_pos rfl] at H; exact H
              clear H
              have H := H1
              clear H1
              by_cases c69 : a0_1 ≥ 1
              · rw [if_pos c69] at H
                have c69b0 : decide (1 ≤ a0_1) = true := decide_eq_true c69
                clear c69
                obtain rfl := Option.some.inj H
                go_enter Try.func105, Try.ntmps105
                go_wp2_with (first | ((with_reducible refine gate_dst (N := 2) rfl ?_); refine box_event ?hg (N := 2) ?hd (cs := #[.int .i64 a0_0, .int .i64 a0_1, .int .i64 a0_2, .int .i64 a0_3, .string a0_4, .string a0_5, .slice A0_6 l0_6.length c0_6]) (t := 26) ?hr ?_; (case hd => rfl); (case hg => rfl); (case hr => first | (go_simp; done) | (go_simp; rfl)); intro gb138 hg w70 hbox hb; have n0_ := Cs.am (Cs.bp (by repeat (first | (with_reducible first | exact HB.out | apply Cs.ba | apply Cs.bn | apply Cs.bd) | exact HB.out)) hb); have n1_ := Cs.am (hbox); have n2_ := Cs.am ((by rw [hg]; exact (Cs.bz (by repeat (first | (with_reducible first | exact HB.out | apply Cs.ba | apply Cs.bn | apply Cs.bd) | exact HB.out))) : w.heap.size ≤ gb138)); have n3_ := Cs.am ((by rw [hg]; exact (Cs.bz (by repeat (first | (with_reducible first | exact HB.out | apply Cs.ba | apply Cs.bn | apply Cs.bd) | exact HB.out))) : w.heap.size ≤ gb138)); clear HB; have HB := n0_; have BK138 := n1_; have GW138 := n2_; have GE138 := n3_; clear n0_ n1_ n2_ n3_; clear hb hbox hg; obtain ⟨hcz71_0, hcz71_1, hcz71_2, hcz71_3, hcz71_4, hcz71_5, hcz71_6⟩ := Cs.cs7 BK138.out; obtain ⟨hfz71_0, hfz71_1, hfz71_2, hfz71_3, hfz71_4, hfz71_5⟩ := Cs.fz6 BK138.out; have hfz71_6 := blk_frozen BK138.out 6) | (go_at_call 132; (with_reducible refine (expr_bare.calls a0_0 a0_1 a0_2 a0_3 a0_4 a0_5 _ _ l0_6 true false false true _ ?side1 ?side2 A67.out).mono ?_); (case side1 => repeat (first | exact (Cs.cb HR0_6.out HB.out) | (with_reducible refine Cs.ca ?_ _) | (with_reducible refine Cs.cn ?_ _) | (with_reducible refine Cs.cd1 ?_))); (case side2 => exact HC0_6.out); rintro e w72 ⟨rfl, hb⟩; have n0_ := Cs.am (Cs.kb (g := gb138) (o := .cells #[.int .i64 a0_0, .int .i64 a0_1, .int .i64 a0_2, .int .i64 a0_3, .string a0_4, .string a0_5, .slice A0_6 l0_6.length c0_6] 26 (0, 0)) (by (with_reducible repeat (first | refine Cs.kn ?_ _ | refine Cs.kd1 ?_ | refine Cs.ka ?_ _)); exact BK138.out) hb); have n1_ := Cs.am (Cs.bp (by repeat (first | (with_reducible first | exact HB.out | apply Cs.ba | apply Cs.bn | apply Cs.bd | refine Cs.bs ?_ GE138.out) | exact HB.out)) hb); clear BK138; clear HB; have BK138 := n0_; have HB := n1_; clear n0_ n1_; (try clear hb); (try clear hb2); (try clear hk); (try clear hi); obtain ⟨hcz73_0, hcz73_1, hcz73_2, hcz73_3, hcz73_4, hcz73_5, hcz73_6⟩ := Cs.cs7 BK138.out; obtain ⟨hfz73_0, hfz73_1, hfz73_2, hfz73_3, hfz73_4, hfz73_5⟩ := Cs.fz6 BK138.out; have hfz73_6 := blk_frozen BK138.out 6))
                go_ret
                exact ⟨by first | rfl | (simp [errW_none, errW_some] <;> rfl) | (simp [*, errW_none, errW_some] <;> rfl), by repeat (first | (with_reducible first | exact HB.out | apply Cs.ba | apply Cs.bn | apply Cs.bd | refine Cs.bs ?_ GE138.out) | exact HB.out)⟩
              · rw [if_neg c69] at H
                have c69b0 : decide (1 ≤ a0_1) = false := decide_eq_false c69
                clear c69
                obtain rfl := Option.some.inj H
                go_enter Try.func105, Try.ntmps105
                go_wp2_with (first | ((with_reducible refine gate_dst (N := 2) rfl ?_); refine box_event ?hg (N := 2) ?hd (cs := #[.int .i64 a0_0, .int .i64 a0_1, .int .i64 a0_2, .int .i64 a0_3, .string a0_4, .string a0_5, .slice A0_6 l0_6.length c0_6]) (t := 26) ?hr ?_; (case hd => rfl); (case hg => rfl); (case hr => first | (go_simp; done) | (go_simp; rfl)); intro gb138 hg w74 hbox hb; have n0_ := Cs.am (Cs.bp (by repeat (first | (with_reducible first | exact HB.out | apply Cs.ba | apply Cs.bn | apply Cs.bd) | exact HB.out)) hb); have n1_ := Cs.am (hbox); have n2_ := Cs.am ((by rw [hg]; exact (Cs.bz (by repeat (first | (with_reducible first | exact HB.out | apply Cs.ba | apply Cs.bn | apply Cs.bd) | exact HB.out))) : w.heap.size ≤ gb138)); have n3_ := Cs.am ((by rw [hg]; exact (Cs.bz (by repeat (first | (with_reducible first | exact HB.out | apply Cs.ba | apply Cs.bn | apply Cs.bd) | exact HB.out))) : w.heap.size ≤ gb138)); clear HB; have HB := n0_; have BK138 := n1_; have GW138 := n2_; have GE138 := n3_; clear n0_ n1_ n2_ n3_; clear hb hbox hg; obtain ⟨hcz75_0, hcz75_1, hcz75_2, hcz75_3, hcz75_4, hcz75_5, hcz75_6⟩ := Cs.cs7 BK138.out; obtain ⟨hfz75_0, hfz75_1, hfz75_2, hfz75_3, hfz75_4, hfz75_5⟩ := Cs.fz6 BK138.out; have hfz75_6 := blk_frozen BK138.out 6) | (go_at_call 132; (with_reducible refine (expr_bare.calls a0_0 a0_1 a0_2 a0_3 a0_4 a0_5 _ _ l0_6 true false false true _ ?side1 ?side2 A67.out).mono ?_); (case side1 => repeat (first | exact (Cs.cb HR0_6.out HB.out) | (with_reducible refine Cs.ca ?_ _) | (with_reducible refine Cs.cn ?_ _) | (with_reducible refine Cs.cd1 ?_))); (case side2 => exact HC0_6.out); rintro e w76 ⟨rfl, hb⟩; have n0_ := Cs.am (Cs.kb (g := gb138) (o := .cells #[.int .i64 a0_0, .int .i64 a0_1, .int .i64 a0_2, .int .i64 a0_3, .string a0_4, .string a0_5, .slice A0_6 l0_6.length c0_6] 26 (0, 0)) (by (with_reducible repeat (first | refine Cs.kn ?_ _ | refine Cs.kd1 ?_ | refine Cs.ka ?_ _)); exact BK138.out) hb); have n1_ := Cs.am (Cs.bp (by repeat (first | (with_reducible first | exact HB.out | apply Cs.ba | apply Cs.bn | apply Cs.bd | refine Cs.bs ?_ GE138.out) | exact HB.out)) hb); clear BK138; clear HB; have BK138 := n0_; have HB := n1_; clear n0_ n1_; (try clear hb); (try clear hb2); (try clear hk); (try clear hi); obtain ⟨hcz77_0, hcz77_1, hcz77_2, hcz77_3, hcz77_4, hcz77_5, hcz77_6⟩ := Cs.cs7 BK138.out; obtain ⟨hfz77_0, hfz77_1, hfz77_2, hfz77_3, hfz77_4, hfz77_5⟩ := Cs.fz6 BK138.out; have hfz77_6 := blk_frozen BK138.out 6))
                go_ret
                exact ⟨by first | rfl | (simp [errW_none, errW_some] <;> rfl) | (simp [*, errW_none, errW_some] <;> rfl), by repeat (first | (with_reducible first | exact HB.out | apply Cs.ba | apply Cs.bn | apply Cs.bd | refine Cs.bs ?_ GE138.out) | exact HB.out)⟩
            · replace c68 := Bool.eq_false_iff.mpr c68
              subst c68
              have H1 : (some false) = some r := by rw [if_neg (show ¬ (false = true) by decide)] at H; exact H
              clear H
              have H := H1
              clear H1
              obtain rfl := Option.some.inj H
              go_enter Try.func105, Try.ntmps105
              go_wp2_with (first | ((with_reducible refine gate_dst (N := 2) rfl ?_); refine box_event ?hg (N := 2) ?hd (cs := #[.int .i64 a0_0, .int .i64 a0_1, .int .i64 a0_2, .int .i64 a0_3, .string a0_4, .string a0_5, .slice A0_6 l0_6.length c0_6]) (t := 26) ?hr ?_; (case hd => rfl); (case hg => rfl); (case hr => first | (go_simp; done) | (go_simp; rfl)); intro gb138 hg w78 hbox hb; have n0_ := Cs.am (Cs.bp (by repeat (first | (with_reducible first | exact HB.out | apply Cs.ba | apply Cs.bn | apply Cs.bd) | exact HB.out)) hb); have n1_ := Cs.am (hbox); have n2_ := Cs.am ((by rw [hg]; exact (Cs.bz (by repeat (first | (with_reducible first | exact HB.out | apply Cs.ba | apply Cs.bn | apply Cs.bd) | exact HB.out))) : w.heap.size ≤ gb138)); have n3_ := Cs.am ((by rw [hg]; exact (Cs.bz (by repeat (first | (with_reducible first | exact HB.out | apply Cs.ba | apply Cs.bn | apply Cs.bd) | exact HB.out))) : w.heap.size ≤ gb138)); clear HB; have HB := n0_; have BK138 := n1_; have GW138 := n2_; have GE138 := n3_; clear n0_ n1_ n2_ n3_; clear hb hbox hg; obtain ⟨hcz79_0, hcz79_1, hcz79_2, hcz79_3, hcz79_4, hcz79_5, hcz79_6⟩ := Cs.cs7 BK138.out; obtain ⟨hfz79_0, hfz79_1, hfz79_2, hfz79_3, hfz79_4, hfz79_5⟩ := Cs.fz6 BK138.out; have hfz79_6 := blk_frozen BK138.out 6) | (go_at_call 132; (with_reducible refine (expr_bare.calls a0_0 a0_1 a0_2 a0_3 a0_4 a0_5 _ _ l0_6 true false false false _ ?side1 ?side2 A67.out).mono ?_); (case side1 => repeat (first | exact (Cs.cb HR0_6.out HB.out) | (with_reducible refine Cs.ca ?_ _) | (with_reducible refine Cs.cn ?_ _) | (with_reducible refine Cs.cd1 ?_))); (case side2 => exact HC0_6.out); rintro e w80 ⟨rfl, hb⟩; have n0_ := Cs.am (Cs.kb (g := gb138) (o := .cells #[.int .i64 a0_0, .int .i64 a0_1, .int .i64 a0_2, .int .i64 a0_3, .string a0_4, .string a0_5, .slice A0_6 l0_6.length c0_6] 26 (0, 0)) (by (with_reducible repeat (first | refine Cs.kn ?_ _ | refine Cs.kd1 ?_ | refine Cs.ka ?_ _)); exact BK138.out) hb); have n1_ := Cs.am (Cs.bp (by repeat (first | (with_reducible first | exact HB.out | apply Cs.ba | apply Cs.bn | apply Cs.bd | refine Cs.bs ?_ GE138.out) | exact HB.out)) hb); clear BK138; clear HB; have BK138 := n0_; have HB := n1_; clear n0_ n1_; (try clear hb); (try clear hb2); (try clear hk); (try clear hi)))
              go_ret
              exact ⟨by first | rfl | (simp [errW_none, errW_some] <;> rfl) | (simp [*, errW_none, errW_some] <;> rfl), by repeat (first | (with_reducible first | exact HB.out | apply Cs.ba | apply Cs.bn | apply Cs.bd | refine Cs.bs ?_ GE138.out) | exact HB.out)⟩
          · rw [if_neg c66] at H
            have c66b0 : ((l0_6.length : Int) == 1) = false := beq_eq_false_iff_ne.mpr c66
            have c66b1 : ((l0_6.length : Int) != 1) = true := bne_iff_ne.mpr c66
            obtain rfl := Option.some.inj H
            go_enter Try.func105, Try.ntmps105
            go_wp2_with (first | ((with_reducible refine gate_dst (N := 2) rfl ?_); refine box_event ?hg (N := 2) ?hd (cs := #[.int .i64 a0_0, .int .i64 a0_1, .int .i64 a0_2, .int .i64 a0_3, .string a0_4, .string a0_5, .slice A0_6 l0_6.length c0_6]) (t := 26) ?hr ?_; (case hd => rfl); (case hg => rfl); (case hr => first | (go_simp; done) | (go_simp; rfl)); intro gb138 hg w81 hbox hb; have n0_ := Cs.am (Cs.bp (by repeat (first | (with_reducible first | exact HB.out | apply Cs.ba | apply Cs.bn | apply Cs.bd) | exact HB.out)) hb); have n1_ := Cs.am (hbox); have n2_ := Cs.am ((by rw [hg]; exact (Cs.bz (by repeat (first | (with_reducible first | exact HB.out | apply Cs.ba | apply Cs.bn | apply Cs.bd) | exact HB.out))) : w.heap.size ≤ gb138)); have n3_ := Cs.am ((by rw [hg]; exact (Cs.bz (by repeat (first | (with_reducible first | exact HB.out | apply Cs.ba | apply Cs.bn | apply Cs.bd) | exact HB.out))) : w.heap.size ≤ gb138)); clear HB; have HB := n0_; have BK138 := n1_; have GW138 := n2_; have GE138 := n3_; clear n0_ n1_ n2_ n3_; clear hb hbox hg; obtain ⟨hcz82_0, hcz82_1, hcz82_2, hcz82_3, hcz82_4, hcz82_5, hcz82_6⟩ := Cs.cs7 BK138.out; obtain ⟨hfz82_0, hfz82_1, hfz82_2, hfz82_3, hfz82_4, hfz82_5⟩ := Cs.fz6 BK138.out; have hfz82_6 := blk_frozen BK138.out 6))
            go_ret
            exact ⟨by first | rfl | (simp [errW_none, errW_some] <;> rfl) | (simp [*, errW_none, errW_some] <;> rfl), by repeat (first | (with_reducible first | exact HB.out | apply Cs.ba | apply Cs.bn | apply Cs.bd | refine Cs.bs ?_ GE138.out) | exact HB.out)⟩
        · rw [if_neg c65] at H
          have c65b0 : (a0_0 == 4) = false := beq_eq_false_iff_ne.mpr c65
          have c65b1 : (a0_0 != 4) = true := bne_iff_ne.mpr c65
          by_cases c83 : a0_0 = 5
          · rw [if_pos c83] at H
            have c83b0 : (a0_0 == 5) = true := beq_iff_eq.mpr c83
            have c83b1 : (a0_0 != 5) = false := bne_eq_false_iff_eq.mpr c83
            clear c83
            by_cases c84 : (l0_6.length : Int) = 2
            · rw [if_pos c84] at H
              have c84b0 : ((l0_6.length : Int) == 2) = true := beq_iff_eq.mpr c84
              have c84b1 : ((l0_6.length : Int) != 2) = false := bne_eq_false_iff_eq.mpr c84
              clear c84
              replace H := Option.bind_eq_some_iff.mp H
              obtain ⟨t145, A850, H⟩ := H
              replace H : (if t145 = true then (if a0_1 ≥ 1 then (some (decide (a0_1 ≤ 14))) else (some false)) else (some false)) = some r := H
              have A85 := Cs.am A850
              clear A850
              by_cases c86 : t145 = true
              · subst c86
                have H1 : (if a0_1 ≥ 1 then (some (decide (a0_1 ≤ 14))) else (some false)) = some r := by rw [if_pos rfl] at H; exact H
                clear H
                have H := H1
                clear H1
                by_cases c87 : a0_1 ≥ 1
                · rw [if_pos c87] at H
                  have c87b0 : decide (1 ≤ a0_1) = true := decide_eq_true c87
                  clear c87
                  obtain rfl := Option.some.inj H
                  go_enter Try.func105, Try.ntmps105
                  go_wp2_with (first | ((with_reducible refine gate_dst (N := 2) rfl ?_); refine box_event ?hg (N := 2) ?hd (cs := #[.int .i64 a0_0, .int .i64 a0_1, .int .i64 a0_2, .int .i64 a0_3, .string a0_4, .string a0_5, .slice A0_6 l0_6.length c0_6]) (t := 26) ?hr ?_; (case hd => rfl); (case hg => rfl); (case hr => first | (go_simp; done) | (go_simp; rfl)); intro gb138 hg w88 hbox hb; have n0_ := Cs.am (Cs.bp (by repeat (first | (with_reducible first | exact HB.out | apply Cs.ba | apply Cs.bn | apply Cs.bd) | exact HB.out)) hb); have n1_ := Cs.am (hbox); have n2_ := Cs.am ((by rw [hg]; exact (Cs.bz (by repeat (first | (with_reducible first | exact HB.out | apply Cs.ba | apply Cs.bn | apply Cs.bd) | exact HB.out))) : w.heap.size ≤ gb138)); have n3_ := Cs.am ((by rw [hg]; exact (Cs.bz (by repeat (first | (with_reducible first | exact HB.out | apply Cs.ba | apply Cs.bn | apply Cs.bd) | exact HB.out))) : w.heap.size ≤ gb138)); clear HB; have HB := n0_; have BK138 := n1_; have GW138 := n2_; have GE138 := n3_; clear n0_ n1_ n2_ n3_; clear hb hbox hg; obtain ⟨hcz89_0, hcz89_1, hcz89_2, hcz89_3, hcz89_4, hcz89_5, hcz89_6⟩ := Cs.cs7 BK138.out; obtain ⟨hfz89_0, hfz89_1, hfz89_2, hfz89_3, hfz89_4, hfz89_5⟩ := Cs.fz6 BK138.out; have hfz89_6 := blk_frozen BK138.out 6) | (go_at_call 132; (with_reducible refine (expr_bare.calls a0_0 a0_1 a0_2 a0_3 a0_4 a0_5 _ _ l0_6 true false false true _ ?side1 ?side2 A85.out).mono ?_); (case side1 => repeat (first | exact (Cs.cb HR0_6.out HB.out) | (with_reducible refine Cs.ca ?_ _) | (with_reducible refine Cs.cn ?_ _) | (with_reducible refine Cs.cd1 ?_))); (case side2 => exact HC0_6.out); rintro e w90 ⟨rfl, hb⟩; have n0_ := Cs.am (Cs.kb (g := gb138) (o := .cells #[.int .i64 a0_0, .int .i64 a0_1, .int .i64 a0_2, .int .i64 a0_3, .string a0_4, .string a0_5, .slice A0_6 l0_6.length c0_6] 26 (0, 0)) (by (with_reducible repeat (first | refine Cs.kn ?_ _ | refine Cs.kd1 ?_ | refine Cs.ka ?_ _)); exact BK138.out) hb); have n1_ := Cs.am (Cs.bp (by repeat (first | (with_reducible first | exact HB.out | apply Cs.ba | apply Cs.bn | apply Cs.bd | refine Cs.bs ?_ GE138.out) | exact HB.out)) hb); clear BK138; clear HB; have BK138 := n0_; have HB := n1_; clear n0_ n1_; (try clear hb); (try clear hb2); (try clear hk); (try clear hi); obtain ⟨hcz91_0, hcz91_1, hcz91_2, hcz91_3, hcz91_4, hcz91_5, hcz91_6⟩ := Cs.cs7 BK138.out; obtain ⟨hfz91_0, hfz91_1, hfz91_2, hfz91_3, hfz91_4, hfz91_5⟩ := Cs.fz6 BK138.out; have hfz91_6 := blk_frozen BK138.out 6))
                  go_ret
                  exact ⟨by first | rfl | (simp [errW_none, errW_some] <;> rfl) | (simp [*, errW_none, errW_some] <;> rfl), by repeat (first | (with_reducible first | exact HB.out | apply Cs.ba | apply Cs.bn | apply Cs.bd | refine Cs.bs ?_ GE138.out) | exact HB.out)⟩
                · rw [if_neg c87] at H
                  have c87b0 : decide (1 ≤ a0_1) = false := decide_eq_false c87
                  clear c87
                  obtain rfl := Option.some.inj H
                  go_enter Try.func105, Try.ntmps105
                  go_wp2_with (first | ((with_reducible refine gate_dst (N := 2) rfl ?_); refine box_event ?hg (N := 2) ?hd (cs := #[.int .i64 a0_0, .int .i64 a0_1, .int .i64 a0_2, .int .i64 a0_3, .string a0_4, .string a0_5, .slice A0_6 l0_6.length c0_6]) (t := 26) ?hr ?_; (case hd => rfl); (case hg => rfl); (case hr => first | (go_simp; done) | (go_simp; rfl)); intro gb138 hg w92 hbox hb; have n0_ := Cs.am (Cs.bp (by repeat (first | (with_reducible first | exact HB.out | apply Cs.ba | apply Cs.bn | apply Cs.bd) | exact HB.out)) hb); have n1_ := Cs.am (hbox); have n2_ := Cs.am ((by rw [hg]; exact (Cs.bz (by repeat (first | (with_reducible first | exact HB.out | apply Cs.ba | apply Cs.bn | apply Cs.bd) | exact HB.out))) : w.heap.size ≤ gb138)); have n3_ := Cs.am ((by rw [hg]; exact (Cs.bz (by repeat (first | (with_reducible first | exact HB.out | apply Cs.ba | apply Cs.bn | apply Cs.bd) | exact HB.out))) : w.heap.size ≤ gb138)); clear HB; have HB := n0_; have BK138 := n1_; have GW138 := n2_; have GE138 := n3_; clear n0_ n1_ n2_ n3_; clear hb hbox hg; obtain ⟨hcz93_0, hcz93_1, hcz93_2, hcz93_3, hcz93_4, hcz93_5, hcz93_6⟩ := Cs.cs7 BK138.out; obtain ⟨hfz93_0, hfz93_1, hfz93_2, hfz93_3, hfz93_4, hfz93_5⟩ := Cs.fz6 BK138.out; have hfz93_6 := blk_frozen BK138.out 6) | (go_at_call 132; (with_reducible refine (expr_bare.calls a0_0 a0_1 a0_2 a0_3 a0_4 a0_5 _ _ l0_6 true false false true _ ?side1 ?side2 A85.out).mono ?_); (case side1 => repeat (first | exact (Cs.cb HR0_6.out HB.out) | (with_reducible refine Cs.ca ?_ _) | (with_reducible refine Cs.cn ?_ _) | (with_reducible refine Cs.cd1 ?_))); (case side2 => exact HC0_6.out); rintro e w94 ⟨rfl, hb⟩; have n0_ := Cs.am (Cs.kb (g := gb138) (o := .cells #[.int .i64 a0_0, .int .i64 a0_1, .int .i64 a0_2, .int .i64 a0_3, .string a0_4, .string a0_5, .slice A0_6 l0_6.length c0_6] 26 (0, 0)) (by (with_reducible repeat (first | refine Cs.kn ?_ _ | refine Cs.kd1 ?_ | refine Cs.ka ?_ _)); exact BK138.out) hb); have n1_ := Cs.am (Cs.bp (by repeat (first | (with_reducible first | exact HB.out | apply Cs.ba | apply Cs.bn | apply Cs.bd | refine Cs.bs ?_ GE138.out) | exact HB.out)) hb); clear BK138; clear HB; have BK138 := n0_; have HB := n1_; clear n0_ n1_; (try clear hb); (try clear hb2); (try clear hk); (try clear hi); obtain ⟨hcz95_0, hcz95_1, hcz95_2, hcz95_3, hcz95_4, hcz95_5, hcz95_6⟩ := Cs.cs7 BK138.out; obtain ⟨hfz95_0, hfz95_1, hfz95_2, hfz95_3, hfz95_4, hfz95_5⟩ := Cs.fz6 BK138.out; have hfz95_6 := blk_frozen BK138.out 6))
                  go_ret
                  exact ⟨by first | rfl | (simp [errW_none, errW_some] <;> rfl) | (simp [*, errW_none, errW_some] <;> rfl), by repeat (first | (with_reducible first | exact HB.out | apply Cs.ba | apply Cs.bn | apply Cs.bd | refine Cs.bs ?_ GE138.out) | exact HB.out)⟩
              · replace c86 := Bool.eq_false_iff.mpr c86
                subst c86
                have H1 : (some false) = some r := by rw [if_neg (show ¬ (false = true) by decide)] at H; exact H
                clear H
                have H := H1
                clear H1
                obtain rfl := Option.some.inj H
                go_enter Try.func105, Try.ntmps105
                go_wp2_with (first | ((with_reducible refine gate_dst (N := 2) rfl ?_); refine box_event ?hg (N := 2) ?hd (cs := #[.int .i64 a0_0, .int .i64 a0_1, .int .i64 a0_2, .int .i64 a0_3, .string a0_4, .string a0_5, .slice A0_6 l0_6.length c0_6]) (t := 26) ?hr ?_; (case hd => rfl); (case hg => rfl); (case hr => first | (go_simp; done) | (go_simp; rfl)); intro gb138 hg w96 hbox hb; have n0_ := Cs.am (Cs.bp (by repeat (first | (with_reducible first | exact HB.out | apply Cs.ba | apply Cs.bn | apply Cs.bd) | exact HB.out)) hb); have n1_ := Cs.am (hbox); have n2_ := Cs.am ((by rw [hg]; exact (Cs.bz (by repeat (first | (with_reducible first | exact HB.out | apply Cs.ba | apply Cs.bn | apply Cs.bd) | exact HB.out))) : w.heap.size ≤ gb138)); have n3_ := Cs.am ((by rw [hg]; exact (Cs.bz (by repeat (first | (with_reducible first | exact HB.out | apply Cs.ba | apply Cs.bn | apply Cs.bd) | exact HB.out))) : w.heap.size ≤ gb138)); clear HB; have HB := n0_; have BK138 := n1_; have GW138 := n2_; have GE138 := n3_; clear n0_ n1_ n2_ n3_; clear hb hbox hg; obtain ⟨hcz97_0, hcz97_1, hcz97_2, hcz97_3, hcz97_4, hcz97_5, hcz97_6⟩ := Cs.cs7 BK138.out; obtain ⟨hfz97_0, hfz97_1, hfz97_2, hfz97_3, hfz97_4, hfz97_5⟩ := Cs.fz6 BK138.out; have hfz97_6 := blk_frozen BK138.out 6) | (go_at_call 132; (with_reducible refine (expr_bare.calls a0_0 a0_1 a0_2 a0_3 a0_4 a0_5 _ _ l0_6 true false false false _ ?side1 ?side2 A85.out).mono ?_); (case side1 => repeat (first | exact (Cs.cb HR0_6.out HB.out) | (with_reducible refine Cs.ca ?_ _) | (with_reducible refine Cs.cn ?_ _) | (with_reducible refine Cs.cd1 ?_))); (case side2 => exact HC0_6.out); rintro e w98 ⟨rfl, hb⟩; have n0_ := Cs.am (Cs.kb (g := gb138) (o := .cells #[.int .i64 a0_0, .int .i64 a0_1, .int .i64 a0_2, .int .i64 a0_3, .string a0_4, .string a0_5, .slice A0_6 l0_6.length c0_6] 26 (0, 0)) (by (with_reducible repeat (first | refine Cs.kn ?_ _ | refine Cs.kd1 ?_ | refine Cs.ka ?_ _)); exact BK138.out) hb); have n1_ := Cs.am (Cs.bp (by repeat (first | (with_reducible first | exact HB.out | apply Cs.ba | apply Cs.bn | apply Cs.bd | refine Cs.bs ?_ GE138.out) | exact HB.out)) hb); clear BK138; clear HB; have BK138 := n0_; have HB := n1_; clear n0_ n1_; (try clear hb); (try clear hb2); (try clear hk); (try clear hi)))
                go_ret
                exact ⟨by first | rfl | (simp [errW_none, errW_some] <;> rfl) | (simp [*, errW_none, errW_some] <;> rfl), by repeat (first | (with_reducible first | exact HB.out | apply Cs.ba | apply Cs.bn | apply Cs.bd | refine Cs.bs ?_ GE138.out) | exact HB.out)⟩
            · rw [if_neg c84] at H
              have c84b0 : ((l0_6.length : Int) == 2) = false := beq_eq_false_iff_ne.mpr c84
              have c84b1 : ((l0_6.length : Int) != 2) = true := bne_iff_ne.mpr c84
              obtain rfl := Option.some.inj H
              go_enter Try.func105, Try.ntmps105
              go_wp2_with (first | ((with_reducible refine gate_dst (N := 2) rfl ?_); refine box_event ?hg (N := 2) ?hd (cs := #[.int .i64 a0_0, .int .i64 a0_1, .int .i64 a0_2, .int .i64 a0_3, .string a0_4, .string a0_5, .slice A0_6 l0_6.length c0_6]) (t := 26) ?hr ?_; (case hd => rfl); (case hg => rfl); (case hr => first | (go_simp; done) | (go_simp; rfl)); intro gb138 hg w99 hbox hb; have n0_ := Cs.am (Cs.bp (by repeat (first | (with_reducible first | exact HB.out | apply Cs.ba | apply Cs.bn | apply Cs.bd) | exact HB.out)) hb); have n1_ := Cs.am (hbox); have n2_ := Cs.am ((by rw [hg]; exact (Cs.bz (by repeat (first | (with_reducible first | exact HB.out | apply Cs.ba | apply Cs.bn | apply Cs.bd) | exact HB.out))) : w.heap.size ≤ gb138)); have n3_ := Cs.am ((by rw [hg]; exact (Cs.bz (by repeat (first | (with_reducible first | exact HB.out | apply Cs.ba | apply Cs.bn | apply Cs.bd) | exact HB.out))) : w.heap.size ≤ gb138)); clear HB; have HB := n0_; have BK138 := n1_; have GW138 := n2_; have GE138 := n3_; clear n0_ n1_ n2_ n3_; clear hb hbox hg; obtain ⟨hcz100_0, hcz100_1, hcz100_2, hcz100_3, hcz100_4, hcz100_5, hcz100_6⟩ := Cs.cs7 BK138.out; obtain ⟨hfz100_0, hfz100_1, hfz100_2, hfz100_3, hfz100_4, hfz100_5⟩ := Cs.fz6 BK138.out; have hfz100_6 := blk_frozen BK138.out 6))
              go_ret
              exact ⟨by first | rfl | (simp [errW_none, errW_some] <;> rfl) | (simp [*, errW_none, errW_some] <;> rfl), by repeat (first | (with_reducible first | exact HB.out | apply Cs.ba | apply Cs.bn | apply Cs.bd | refine Cs.bs ?_ GE138.out) | exact HB.out)⟩
          · rw [if_neg c83] at H
            have c83b0 : (a0_0 == 5) = false := beq_eq_false_iff_ne.mpr c83
            have c83b1 : (a0_0 != 5) = true := bne_iff_ne.mpr c83
            by_cases c101 : a0_0 = 6
            · rw [if_pos c101] at H
              have c101b0 : (a0_0 == 6) = true := beq_iff_eq.mpr c101
              have c101b1 : (a0_0 != 6) = false := bne_eq_false_iff_eq.mpr c101
              clear c101
              by_cases c102 : (l0_6.length : Int) ≥ 2
              · rw [if_pos c102] at H
                have c102b0 : decide (2 ≤ (l0_6.length : Int)) = true := decide_eq_true c102
                have c102b1 : decide (2 ≤ l0_6.length) = true := decide_eq_true (by omega)
                clear c102
                by_cases c103 : (l0_6.length : Int) ≤ 9
                · rw [if_pos c103] at H
                  have c103b0 : decide ((l0_6.length : Int) ≤ 9) = true := decide_eq_true c103
                  have c103b1 : decide (l0_6.length ≤ 9) = true := decide_eq_true (by omega)
                  clear c103
                  replace H := Option.bind_eq_some_iff.mp H
                  obtain ⟨t146, A1040, H⟩ := H
                  replace H : (some t146) = some r := H
                  have A104 := Cs.am A1040
                  clear A1040
                  obtain rfl := Option.some.inj H
                  go_enter Try.func105, Try.ntmps105
                  go_wp2_with (first | ((with_reducible refine gate_dst (N := 2) rfl ?_); refine box_event ?hg (N := 2) ?hd (cs := #[.int .i64 a0_0, .int .i64 a0_1, .int .i64 a0_2, .int .i64 a0_3, .string a0_4, .string a0_5, .slice A0_6 l0_6.length c0_6]) (t := 26) ?hr ?_; (case hd => rfl); (case hg => rfl); (case hr => first | (go_simp; done) | (go_simp; rfl)); intro gb138 hg w105 hbox hb; have n0_ := Cs.am (Cs.bp (by repeat (first | (with_reducible first | exact HB.out | apply Cs.ba | apply Cs.bn | apply Cs.bd) | exact HB.out)) hb); have n1_ := Cs.am (hbox); have n2_ := Cs.am ((by rw [hg]; exact (Cs.bz (by repeat (first | (with_reducible first | exact HB.out | apply Cs.ba | apply Cs.bn | apply Cs.bd) | exact HB.out))) : w.heap.size ≤ gb138)); have n3_ := Cs.am ((by rw [hg]; exact (Cs.bz (by repeat (first | (with_reducible first | exact HB.out | apply Cs.ba | apply Cs.bn | apply Cs.bd) | exact HB.out))) : w.heap.size ≤ gb138)); clear HB; have HB := n0_; have BK138 := n1_; have GW138 := n2_; have GE138 := n3_; clear n0_ n1_ n2_ n3_; clear hb hbox hg; obtain ⟨hcz106_0, hcz106_1, hcz106_2, hcz106_3, hcz106_4, hcz106_5, hcz106_6⟩ := Cs.cs7 BK138.out; obtain ⟨hfz106_0, hfz106_1, hfz106_2, hfz106_3, hfz106_4, hfz106_5⟩ := Cs.fz6 BK138.out; have hfz106_6 := blk_frozen BK138.out 6) | (go_at_call 132; (with_reducible refine (expr_bare.calls a0_0 a0_1 a0_2 a0_3 a0_4 a0_5 _ _ l0_6 false false false t146 _ ?side1 ?side2 A104.out).mono ?_); (case side1 => repeat (first | exact (Cs.cb HR0_6.out HB.out) | (with_reducible refine Cs.ca ?_ _) | (with_reducible refine Cs.cn ?_ _) | (with_reducible refine Cs.cd1 ?_))); (case side2 => exact HC0_6.out); rintro e w107 ⟨rfl, hb⟩; have n0_ := Cs.am (Cs.kb (g := gb138) (o := .cells #[.int .i64 a0_0, .int .i64 a0_1, .int .i64 a0_2, .int .i64 a0_3, .string a0_4, .string a0_5, .slice A0_6 l0_6.length c0_6] 26 (0, 0)) (by (with_reducible repeat (first | refine Cs.kn ?_ _ | refine Cs.kd1 ?_ | refine Cs.ka ?_ _)); exact BK138.out) hb); have n1_ := Cs.am (Cs.bp (by repeat (first | (with_reducible first | exact HB.out | apply Cs.ba | apply Cs.bn | apply Cs.bd | refine Cs.bs ?_ GE138.out) | exact HB.out)) hb); clear BK138; clear HB; have BK138 := n0_; have HB := n1_; clear n0_ n1_; (try clear hb); (try clear hb2); (try clear hk); (try clear hi)))
                  go_ret
                  exact ⟨by first | rfl | (simp [errW_none, errW_some] <;> rfl) | (simp [*, errW_none, errW_some] <;> rfl), by repeat (first | (with_reducible first | exact HB.out | apply Cs.ba | apply Cs.bn | apply Cs.bd | refine Cs.bs ?_ GE138.out) | exact HB.out)⟩
                · rw [if_neg c103] at H
                  have c103b0 : decide ((l0_6.length : Int) ≤ 9) = false := decide_eq_false c103
                  have c103b1 : decide (l0_6.length ≤ 9) = false := decide_eq_false (by omega)
                  clear c103
                  obtain rfl := Option.some.inj H
                  go_enter Try.func105, Try.ntmps105
                  go_wp2_with (first | ((with_reducible refine gate_dst (N := 2) rfl ?_); refine box_event ?hg (N := 2) ?hd (cs := #[.int .i64 a0_0, .int .i64 a0_1, .int .i64 a0_2, .int .i64 a0_3, .string a0_4, .string a0_5, .slice A0_6 l0_6.length c0_6]) (t := 26) ?hr ?_; (case hd => rfl); (case hg => rfl); (case hr => first | (go_simp; done) | (go_simp; rfl)); intro gb138 hg w108 hbox hb; have n0_ := Cs.am (Cs.bp (by repeat (first | (with_reducible first | exact HB.out | apply Cs.ba | apply Cs.bn | apply Cs.bd) | exact HB.out)) hb); have n1_ := Cs.am (hbox); have n2_ := Cs.am ((by rw [hg]; exact (Cs.bz (by repeat (first | (with_reducible first | exact HB.out | apply Cs.ba | apply Cs.bn | apply Cs.bd) | exact HB.out))) : w.heap.size ≤ gb138)); have n3_ := Cs.am ((by rw [hg]; exact (Cs.bz (by repeat (first | (with_reducible first | exact HB.out | apply Cs.ba | apply Cs.bn | apply Cs.bd) | exact HB.out))) : w.heap.size ≤ gb138)); clear HB; have HB := n0_; have BK138 := n1_; have GW138 := n2_; have GE138 := n3_; clear n0_ n1_ n2_ n3_; clear hb hbox hg; obtain ⟨hcz109_0, hcz109_1, hcz109_2, hcz109_3, hcz109_4, hcz109_5, hcz109_6⟩ := Cs.cs7 BK138.out; obtain ⟨hfz109_0, hfz109_1, hfz109_2, hfz109_3, hfz109_4, hfz109_5⟩ := Cs.fz6 BK138.out; have hfz109_6 := blk_frozen BK138.out 6))
                  go_ret
                  exact ⟨by first | rfl | (simp [errW_none, errW_some] <;> rfl) | (simp [*, errW_none, errW_some] <;> rfl), by repeat (first | (with_reducible first | exact HB.out | apply Cs.ba | apply Cs.bn | apply Cs.bd | refine Cs.bs ?_ GE138.out) | exact HB.out)⟩
              · rw [if_neg c102] at H
                have c102b0 : decide (2 ≤ (l0_6.length : Int)) = false := decide_eq_false c102
                have c102b1 : decide (2 ≤ l0_6.length) = false := decide_eq_false (by omega)
                clear c102
                obtain rfl := Option.some.inj H
                go_enter Try.func105, Try.ntmps105
                go_wp2_with (first | ((with_reducible refine gate_dst (N := 2) rfl ?_); refine box_event ?hg (N := 2) ?hd (cs := #[.int .i64 a0_0, .int .i64 a0_1, .int .i64 a0_2, .int .i64 a0_3, .string a0_4, .string a0_5, .slice A0_6 l0_6.length c0_6]) (t := 26) ?hr ?_; (case hd => rfl); (case hg => rfl); (case hr => first | (go_simp; done) | (go_simp; rfl)); intro gb138 hg w110 hbox hb; have n0_ := Cs.am (Cs.bp (by repeat (first | (with_reducible first | exact HB.out | apply Cs.ba | apply Cs.bn | apply Cs.bd) | exact HB.out)) hb); have n1_ := Cs.am (hbox); have n2_ := Cs.am ((by rw [hg]; exact (Cs.bz (by repeat (first | (with_reducible first | exact HB.out | apply Cs.ba | apply Cs.bn | apply Cs.bd) | exact HB.out))) : w.heap.size ≤ gb138)); have n3_ := Cs.am ((by rw [hg]; exact (Cs.bz (by repeat (first | (with_reducible first | exact HB.out | apply Cs.ba | apply Cs.bn | apply Cs.bd) | exact HB.out))) : w.heap.size ≤ gb138)); clear HB; have HB := n0_; have BK138 := n1_; have GW138 := n2_; have GE138 := n3_; clear n0_ n1_ n2_ n3_; clear hb hbox hg; obtain ⟨hcz111_0, hcz111_1, hcz111_2, hcz111_3, hcz111_4, hcz111_5, hcz111_6⟩ := Cs.cs7 BK138.out; obtain ⟨hfz111_0, hfz111_1, hfz111_2, hfz111_3, hfz111_4, hfz111_5⟩ := Cs.fz6 BK138.out; have hfz111_6 := blk_frozen BK138.out 6))
                go_ret
                exact ⟨by first | rfl | (simp [errW_none, errW_some] <;> rfl) | (simp [*, errW_none, errW_some] <;> rfl), by repeat (first | (with_reducible first | exact HB.out | apply Cs.ba | apply Cs.bn | apply Cs.bd | refine Cs.bs ?_ GE138.out) | exact HB.out)⟩
            · rw [if_neg c101] at H
              have c101b0 : (a0_0 == 6) = false := beq_eq_false_iff_ne.mpr c101
              have c101b1 : (a0_0 != 6) = true := bne_iff_ne.mpr c101
              by_cases c112 : a0_0 = 7
              · rw [if_pos c112] at H
                have c112b0 : (a0_0 == 7) = true := beq_iff_eq.mpr c112
                have c112b1 : (a0_0 != 7) = false := bne_eq_false_iff_eq.mpr c112
                clear c112
                replace H := Option.bind_eq_some_iff.mp H
                obtain ⟨t147, A1130, H⟩ := H
                replace H : (if t147 = true then ((expr_call.f a0_5 (l0_6.length : Int)).bind fun t148 => (some t148)) else (some false)) = some r := H
                have A113 := Cs.am A1130
                clear A1130
                by_cases c114 : t147 = true
                · subst c114
                  have H1 : ((expr_call.f a0_5 (l0_6.length : Int)).bind fun t148 => (some t148)) = some r := by rw [if_pos rfl] at H; exact H
                  clear H
                  have H := H1
                  clear H1
                  replace H := Option.bind_eq_some_iff.mp H
                  obtain ⟨t148, A1150, H⟩ := H
                  replace H : (some t148) = some r := H
                  have A115 := Cs.am A1150
                  clear A1150
                  obtain rfl := Option.some.inj H
                  go_enter Try.func105, Try.ntmps105
                  go_wp2_with (first | ((with_reducible refine gate_dst (N := 2) rfl ?_); refine box_event ?hg (N := 2) ?hd (cs := #[.int .i64 a0_0, .int .i64 a0_1, .int .i64 a0_2, .int .i64 a0_3, .string a0_4, .string a0_5, .slice A0_6 l0_6.length c0_6]) (t := 26) ?hr ?_; (case hd => rfl); (case hg => rfl); (case hr => first | (go_simp; done) | (go_simp; rfl)); intro gb138 hg w116 hbox hb; have n0_ := Cs.am (Cs.bp (by repeat (first | (with_reducible first | exact HB.out | apply Cs.ba | apply Cs.bn | apply Cs.bd) | exact HB.out)) hb); have n1_ := Cs.am (hbox); have n2_ := Cs.am ((by rw [hg]; exact (Cs.bz (by repeat (first | (with_reducible first | exact HB.out | apply Cs.ba | apply Cs.bn | apply Cs.bd) | exact HB.out))) : w.heap.size ≤ gb138)); have n3_ := Cs.am ((by rw [hg]; exact (Cs.bz (by repeat (first | (with_reducible first | exact HB.out | apply Cs.ba | apply Cs.bn | apply Cs.bd) | exact HB.out))) : w.heap.size ≤ gb138)); clear HB; have HB := n0_; have BK138 := n1_; have GW138 := n2_; have GE138 := n3_; clear n0_ n1_ n2_ n3_; clear hb hbox hg; obtain ⟨hcz117_0, hcz117_1, hcz117_2, hcz117_3, hcz117_4, hcz117_5, hcz117_6⟩ := Cs.cs7 BK138.out; obtain ⟨hfz117_0, hfz117_1, hfz117_2, hfz117_3, hfz117_4, hfz117_5⟩ := Cs.fz6 BK138.out; have hfz117_6 := blk_frozen BK138.out 6) | ((with_reducible refine gate_callee (f := 132) rfl ?_); refine goesL_ (some 118) rfl rfl Try.func132 (by kernel_rfl) rfl #[.agg #[.int .i64 a0_0, .int .i64 a0_1, .int .i64 a0_2, .int .i64 a0_3, .string a0_4, .string a0_5, .slice A0_6 l0_6.length c0_6], .bool false, .bool false, .bool true] rfl (by (try simp only [List.map_toArray, List.map_cons, List.map_nil]); first | done | rfl | (simp only [List.length_drop, List.length_take]; rfl)) ?_; (with_reducible refine (expr_bare.calls a0_0 a0_1 a0_2 a0_3 a0_4 a0_5 _ _ l0_6 false false true true _ ?side1 ?side2 A113.out).mono ?_); (case side1 => repeat (first | exact (Cs.cb HR0_6.out HB.out) | (with_reducible refine Cs.ca ?_ _) | (with_reducible refine Cs.cn ?_ _) | (with_reducible refine Cs.cd1 ?_))); (case side2 => exact HC0_6.out); rintro e w118 ⟨rfl, hb⟩; refine ⟨_, rfl, ?_⟩; have n0_ := Cs.am (Cs.kb (g := gb138) (o := .cells #[.int .i64 a0_0, .int .i64 a0_1, .int .i64 a0_2, .int .i64 a0_3, .string a0_4, .string a0_5, .slice A0_6 l0_6.length c0_6] 26 (0, 0)) (by (with_reducible repeat (first | refine Cs.kn ?_ _ | refine Cs.kd1 ?_ | refine Cs.ka ?_ _)); exact BK138.out) hb); have n1_ := Cs.am (Cs.bp (by repeat (first | (with_reducible first | exact HB.out | apply Cs.ba | apply Cs.bn | apply Cs.bd | refine Cs.bs ?_ GE138.out) | exact HB.out)) hb); clear BK138; clear HB; have BK138 := n0_; have HB := n1_; clear n0_ n1_; (try clear hb); (try clear hb2); (try clear hk); (try clear hi); obtain ⟨hcz119_0, hcz119_1, hcz119_2, hcz119_3, hcz119_4, hcz119_5, hcz119_6⟩ := Cs.cs7 BK138.out; obtain ⟨hfz119_0, hfz119_1, hfz119_2, hfz119_3, hfz119_4, hfz119_5⟩ := Cs.fz6 BK138.out; have hfz119_6 := blk_frozen BK138.out 6) | (go_at_call 133; (with_reducible refine (expr_call.calls a0_5 (l0_6.length : Int) t148 _ A115.out).mono ?_); rintro e w' ⟨rfl, ⟨nd, rfl⟩⟩))
                  go_ret
                  exact ⟨by first | rfl | (simp [errW_none, errW_some] <;> rfl) | (simp [*, errW_none, errW_some] <;> rfl), by repeat (first | (with_reducible first | exact HB.out | apply Cs.ba | apply Cs.bn | apply Cs.bd | refine Cs.bs ?_ GE138.out) | exact HB.out)⟩
                · replace c114 := Bool.eq_false_iff.mpr c114
                  subst c114
                  have H1 : (some false) = some r := by rw [if_neg (show ¬ (false = true) by decide)] at H; exact H
                  clear H
                  have H := H1
                  clear H1
                  obtain rfl := Option.some.inj H
                  go_enter Try.func105, Try.ntmps105
                  go_wp2_with (first | ((with_reducible refine gate_dst (N := 2) rfl ?_); refine box_event ?hg (N := 2) ?hd (cs := #[.int .i64 a0_0, .int .i64 a0_1, .int .i64 a0_2, .int .i64 a0_3, .string a0_4, .string a0_5, .slice A0_6 l0_6.length c0_6]) (t := 26) ?hr ?_; (case hd => rfl); (case hg => rfl); (case hr => first | (go_simp; done) | (go_simp; rfl)); intro gb138 hg w120 hbox hb; have n0_ := Cs.am (Cs.bp (by repeat (first | (with_reducible first | exact HB.out | apply Cs.ba | apply Cs.bn | apply Cs.bd) | exact HB.out)) hb); have n1_ := Cs.am (hbox); have n2_ := Cs.am ((by rw [hg]; exact (Cs.bz (by repeat (first | (with_reducible first | exact HB.out | apply Cs.ba | apply Cs.bn | apply Cs.bd) | exact HB.out))) : w.heap.size ≤ gb138)); have n3_ := Cs.am ((by rw [hg]; exact (Cs.bz (by repeat (first | (with_reducible first | exact HB.out | apply Cs.ba | apply Cs.bn | apply Cs.bd) | exact HB.out))) : w.heap.size ≤ gb138)); clear HB; have HB := n0_; have BK138 := n1_; have GW138 := n2_; have GE138 := n3_; clear n0_ n1_ n2_ n3_; clear hb hbox hg; obtain ⟨hcz121_0, hcz121_1, hcz121_2, hcz121_3, hcz121_4, hcz121_5, hcz121_6⟩ := Cs.cs7 BK138.out; obtain ⟨hfz121_0, hfz121_1, hfz121_2, hfz121_3, hfz121_4, hfz121_5⟩ := Cs.fz6 BK138.out; have hfz121_6 := blk_frozen BK138.out 6) | ((with_reducible refine gate_callee (f := 132) rfl ?_); refine goesL_ (some 118) rfl rfl Try.func132 (by kernel_rfl) rfl #[.agg #[.int .i64 a0_0, .int .i64 a0_1, .int .i64 a0_2, .int .i64 a0_3, .string a0_4, .string a0_5, .slice A0_6 l0_6.length c0_6], .bool false, .bool false, .bool true] rfl (by (try simp only [List.map_toArray, List.map_cons, List.map_nil]); first | done | rfl | (simp only [List.length_drop, List.length_take]; rfl)) ?_; (with_reducible refine (expr_bare.calls a0_0 a0_1 a0_2 a0_3 a0_4 a0_5 _ _ l0_6 false false true false _ ?side1 ?side2 A113.out).mono ?_); (case side1 => repeat (first | exact (Cs.cb HR0_6.out HB.out) | (with_reducible refine Cs.ca ?_ _) | (with_reducible refine Cs.cn ?_ _) | (with_reducible refine Cs.cd1 ?_))); (case side2 => exact HC0_6.out); rintro e w122 ⟨rfl, hb⟩; refine ⟨_, rfl, ?_⟩; have n0_ := Cs.am (Cs.kb (g := gb138) (o := .cells #[.int .i64 a0_0, .int .i64 a0_1, .int .i64 a0_2, .int .i64 a0_3, .string a0_4, .string a0_5, .slice A0_6 l0_6.length c0_6] 26 (0, 0)) (by (with_reducible repeat (first | refine Cs.kn ?_ _ | refine Cs.kd1 ?_ | refine Cs.ka ?_ _)); exact BK138.out) hb); have n1_ := Cs.am (Cs.bp (by repeat (first | (with_reducible first | exact HB.out | apply Cs.ba | apply Cs.bn | apply Cs.bd | refine Cs.bs ?_ GE138.out) | exact HB.out)) hb); clear BK138; clear HB; have BK138 := n0_; have HB := n1_; clear n0_ n1_; (try clear hb); (try clear hb2); (try clear hk); (try clear hi)))
                  go_ret
                  exact ⟨by first | rfl | (simp [errW_none, errW_some] <;> rfl) | (simp [*, errW_none, errW_some] <;> rfl), by repeat (first | (with_reducible first | exact HB.out | apply Cs.ba | apply Cs.bn | apply Cs.bd | refine Cs.bs ?_ GE138.out) | exact HB.out)⟩
              · rw [if_neg c112] at H
                have c112b0 : (a0_0 == 7) = false := beq_eq_false_iff_ne.mpr c112
                have c112b1 : (a0_0 != 7) = true := bne_iff_ne.mpr c112
                by_cases c123 : a0_0 = 8
                · rw [if_pos c123] at H
                  have c123b0 : (a0_0 == 8) = true := beq_iff_eq.mpr c123
                  have c123b1 : (a0_0 != 8) = false := bne_eq_false_iff_eq.mpr c123
                  clear c123
                  by_cases c124 : a1 = true
                  · subst c124
                    have H1 : (if (l0_6.length : Int) = 0 then ((expr_bare.f a0_0 a0_1 a0_2 a0_3 a0_4 a0_5 l0_6 true false false).bind fun t149 => (if t149 = true then (if a0_1 ≥ 0 then (some (decide (a0_1 < 6))) else (some false)) else (some false))) else (some false)) = some r := by rw [if_pos rfl] at H; exact H
                    clear H
                    have H := H1
                    clear H1
                    by_cases c125 : (l0_6.length : Int) = 0
                    · rw [if_pos c125] at H
                      have c125b0 : ((l0_6.length : Int) == 0) = true := beq_iff_eq.mpr c125
                      have c125b1 : ((l0_6.length : Int) != 0) = false := bne_eq_false_iff_eq.mpr c125
                      clear c125
                      replace H := Option.bind_eq_some_iff.mp H
                      obtain ⟨t149, A1260, H⟩ := H
                      replace H : (if t149 = true then (if a0_1 ≥ 0 then (some (decide (a0_1 < 6))) else (some false)) else (some false)) = some r := H
                      have A126 := Cs.am A1260
                      clear A1260
                      by_cases c127 : t149 = true
                      · subst c127
                        have H1 : (if a0_1 ≥ 0 then (some (decide (a0_1 < 6))) else (some false)) = some r := by rw [if_pos rfl] at H; exact H
                        clear H
                        have H := H1
                        clear H1
                        by_cases c128 : a0_1 ≥ 0
                        · rw [if_pos c128] at H
                          have c128b0 : decide (0 ≤ a0_1) = true := decide_eq_true c128
                          clear c128
                          obtain rfl := Option.some.inj H
                          go_enter Try.func105, Try.ntmps105
                          go_wp2_with (first | ((with_reducible refine gate_dst (N := 2) rfl ?_); refine box_event ?hg (N := 2) ?hd (cs := #[.int .i64 a0_0, .int .i64 a0_1, .int .i64 a0_2, .int .i64 a0_3, .string a0_4, .string a0_5, .slice A0_6 l0_6.length c0_6]) (t := 26) ?hr ?_; (case hd => rfl); (case hg => rfl); (case hr => first | (go_simp; done) | (go_simp; rfl)); intro gb138 hg w129 hbox hb; have n0_ := Cs.am (Cs.bp (by repeat (first | (with_reducible first | exact HB.out | apply Cs.ba | apply Cs.bn | apply Cs.bd) | exact HB.out)) hb); have n1_ := Cs.am (hbox); have n2_ := Cs.am ((by rw [hg]; exact (Cs.bz (by repeat (first | (with_reducible first | exact HB.out | apply Cs.ba | apply Cs.bn | apply Cs.bd) | exact HB.out))) : w.heap.size ≤ gb138)); have n3_ := Cs.am ((by rw [hg]; exact (Cs.bz (by repeat (first | (with_reducible first | exact HB.out | apply Cs.ba | apply Cs.bn | apply Cs.bd) | exact HB.out))) : w.heap.size ≤ gb138)); clear HB; have HB := n0_; have BK138 := n1_; have GW138 := n2_; have GE138 := n3_; clear n0_ n1_ n2_ n3_; clear hb hbox hg; obtain ⟨hcz130_0, hcz130_1, hcz130_2, hcz130_3, hcz130_4, hcz130_5, hcz130_6⟩ := Cs.cs7 BK138.out; obtain ⟨hfz130_0, hfz130_1, hfz130_2, hfz130_3, hfz130_4, hfz130_5⟩ := Cs.fz6 BK138.out; have hfz130_6 := blk_frozen BK138.out 6) | (go_at_call 132; (with_reducible refine (expr_bare.calls a0_0 a0_1 a0_2 a0_3 a0_4 a0_5 _ _ l0_6 true false false true _ ?side1 ?side2 A126.out).mono ?_); (case side1 => repeat (first | exact (Cs.cb HR0_6.out HB.out) | (with_reducible refine Cs.ca ?_ _) | (with_reducible refine Cs.cn ?_ _) | (with_reducible refine Cs.cd1 ?_))); (case side2 => exact HC0_6.out); rintro e w131 ⟨rfl, hb⟩; have n0_ := Cs.am (Cs.kb (g := gb138) (o := .cells #[.int .i64 a0_0, .int .i64 a0_1, .int .i64 a0_2, .int .i64 a0_3, .string a0_4, .string a0_5, .slice A0_6 l0_6.length c0_6] 26 (0, 0)) (by (with_reducible repeat (first | refine Cs.kn ?_ _ | refine Cs.kd1 ?_ | refine Cs.ka ?_ _)); exact BK138.out) hb); have n1_ := Cs.am (Cs.bp (by repeat (first | (with_reducible first | exact HB.out | apply Cs.ba | apply Cs.bn | apply Cs.bd | refine Cs.bs ?_ GE138.out) | exact HB.out)) hb); clear BK138; clear HB; have BK138 := n0_; have HB := n1_; clear n0_ n1_; (try clear hb); (try clear hb2); (try clear hk); (try clear hi); obtain ⟨hcz132_0, hcz132_1, hcz132_2, hcz132_3, hcz132_4, hcz132_5, hcz132_6⟩ := Cs.cs7 BK138.out; obtain ⟨hfz132_0, hfz132_1, hfz132_2, hfz132_3, hfz132_4, hfz132_5⟩ := Cs.fz6 BK138.out; have hfz132_6 := blk_frozen BK138.out 6))
                          go_ret
                          exact ⟨by first | rfl | (simp [errW_none, errW_some] <;> rfl) | (simp [*, errW_none, errW_some] <;> rfl), by repeat (first | (with_reducible first | exact HB.out | apply Cs.ba | apply Cs.bn | apply Cs.bd | refine Cs.bs ?_ GE138.out) | exact HB.out)⟩
                        · rw [if_neg c128] at H
                          have c128b0 : decide (0 ≤ a0_1) = false := decide_eq_false c128
                          clear c128
                          obtain rfl := Option.some.inj H
                          go_enter Try.func105, Try.ntmps105
                          go_wp2_with (first | ((with_reducible refine gate_dst (N := 2) rfl ?_); refine box_event ?hg (N := 2) ?hd (cs := #[.int .i64 a0_0, .int .i64 a0_1, .int .i64 a0_2, .int .i64 a0_3, .string a0_4, .string a0_5, .slice A0_6 l0_6.length c0_6]) (t := 26) ?hr ?_; (case hd => rfl); (case hg => rfl); (case hr => first | (go_simp; done) | (go_simp; rfl)); intro gb138 hg w133 hbox hb; have n0_ := Cs.am (Cs.bp (by repeat (first | (with_reducible first | exact HB.out | apply Cs.ba | apply Cs.bn | apply Cs.bd) | exact HB.out)) hb); have n1_ := Cs.am (hbox); have n2_ := Cs.am ((by rw [hg]; exact (Cs.bz (by repeat (first | (with_reducible first | exact HB.out | apply Cs.ba | apply Cs.bn | apply Cs.bd) | exact HB.out))) : w.heap.size ≤ gb138)); have n3_ := Cs.am ((by rw [hg]; exact (Cs.bz (by repeat (first | (with_reducible first | exact HB.out | apply Cs.ba | apply Cs.bn | apply Cs.bd) | exact HB.out))) : w.heap.size ≤ gb138)); clear HB; have HB := n0_; have BK138 := n1_; have GW138 := n2_; have GE138 := n3_; clear n0_ n1_ n2_ n3_; clear hb hbox hg; obtain ⟨hcz134_0, hcz134_1, hcz134_2, hcz134_3, hcz134_4, hcz134_5, hcz134_6⟩ := Cs.cs7 BK138.out; obtain ⟨hfz134_0, hfz134_1, hfz134_2, hfz134_3, hfz134_4, hfz134_5⟩ := Cs.fz6 BK138.out; have hfz134_6 := blk_frozen BK138.out 6) | (go_at_call 132; (with_reducible refine (expr_bare.calls a0_0 a0_1 a0_2 a0_3 a0_4 a0_5 _ _ l0_6 true false false true _ ?side1 ?side2 A126.out).mono ?_); (case side1 => repeat (first | exact (Cs.cb HR0_6.out HB.out) | (with_reducible refine Cs.ca ?_ _) | (with_reducible refine Cs.cn ?_ _) | (with_reducible refine Cs.cd1 ?_))); (case side2 => exact HC0_6.out); rintro e w135 ⟨rfl, hb⟩; have n0_ := Cs.am (Cs.kb (g := gb138) (o := .cells #[.int .i64 a0_0, .int .i64 a0_1, .int .i64 a0_2, .int .i64 a0_3, .string a0_4, .string a0_5, .slice A0_6 l0_6.length c0_6] 26 (0, 0)) (by (with_reducible repeat (first | refine Cs.kn ?_ _ | refine Cs.kd1 ?_ | refine Cs.ka ?_ _)); exact BK138.out) hb); have n1_ := Cs.am (Cs.bp (by repeat (first | (with_reducible first | exact HB.out | apply Cs.ba | apply Cs.bn | apply Cs.bd | refine Cs.bs ?_ GE138.out) | exact HB.out)) hb); clear BK138; clear HB; have BK138 := n0_; have HB := n1_; clear n0_ n1_; (try clear hb); (try clear hb2); (try clear hk); (try clear hi); obtain ⟨hcz136_0, hcz136_1, hcz136_2, hcz136_3, hcz136_4, hcz136_5, hcz136_6⟩ := Cs.cs7 BK138.out; obtain ⟨hfz136_0, hfz136_1, hfz136_2, hfz136_3, hfz136_4, hfz136_5⟩ := Cs.fz6 BK138.out; have hfz136_6 := blk_frozen BK138.out 6))
                          go_ret
                          exact ⟨by first | rfl | (simp [errW_none, errW_some] <;> rfl) | (simp [*, errW_none, errW_some] <;> rfl), by repeat (first | (with_reducible first | exact HB.out | apply Cs.ba | apply Cs.bn | apply Cs.bd | refine Cs.bs ?_ GE138.out) | exact HB.out)⟩
                      · replace c127 := Bool.eq_false_iff.mpr c127
                        subst c127
                        have H1 : (some false) = some r := by rw [if_neg (show ¬ (false = true) by decide)] at H; exact H
                        clear H
                        have H := H1
                        clear H1
                        obtain rfl := Option.some.inj H
                        go_enter Try.func105, Try.ntmps105
                        go_wp2_with (first | ((with_reducible refine gate_dst (N := 2) rfl ?_); refine box_event ?hg (N := 2) ?hd (cs := #[.int .i64 a0_0, .int .i64 a0_1, .int .i64 a0_2, .int .i64 a0_3, .string a0_4, .string a0_5, .slice A0_6 l0_6.length c0_6]) (t := 26) ?hr ?_; (case hd => rfl); (case hg => rfl); (case hr => first | (go_simp; done) | (go_simp; rfl)); intro gb138 hg w137 hbox hb; have n0_ := Cs.am (Cs.bp (by repeat (first | (with_reducible first | exact HB.out | apply Cs.ba | apply Cs.bn | apply Cs.bd) | exact HB.out)) hb); have n1_ := Cs.am (hbox); have n2_ := Cs.am ((by rw [hg]; exact (Cs.bz (by repeat (first | (with_reducible first | exact HB.out | apply Cs.ba | apply Cs.bn | apply Cs.bd) | exact HB.out))) : w.heap.size ≤ gb138)); have n3_ := Cs.am ((by rw [hg]; exact (Cs.bz (by repeat (first | (with_reducible first | exact HB.out | apply Cs.ba | apply Cs.bn | apply Cs.bd) | exact HB.out))) : w.heap.size ≤ gb138)); clear HB; have HB := n0_; have BK138 := n1_; have GW138 := n2_; have GE138 := n3_; clear n0_ n1_ n2_ n3_; clear hb hbox hg; obtain ⟨hcz138_0, hcz138_1, hcz138_2, hcz138_3, hcz138_4, hcz138_5, hcz138_6⟩ := Cs.cs7 BK138.out; obtain ⟨hfz138_0, hfz138_1, hfz138_2, hfz138_3, hfz138_4, hfz138_5⟩ := Cs.fz6 BK138.out; have hfz138_6 := blk_frozen BK138.out 6) | (go_at_call 132; (with_reducible refine (expr_bare.calls a0_0 a0_1 a0_2 a0_3 a0_4 a0_5 _ _ l0_6 true false false false _ ?side1 ?side2 A126.out).mono ?_); (case side1 => repeat (first | exact (Cs.cb HR0_6.out HB.out) | (with_reducible refine Cs.ca ?_ _) | (with_reducible refine Cs.cn ?_ _) | (with_reducible refine Cs.cd1 ?_))); (case side2 => exact HC0_6.out); rintro e w139 ⟨rfl, hb⟩; have n0_ := Cs.am (Cs.kb (g := gb138) (o := .cells #[.int .i64 a0_0, .int .i64 a0_1, .int .i64 a0_2, .int .i64 a0_3, .string a0_4, .string a0_5, .slice A0_6 l0_6.length c0_6] 26 (0, 0)) (by (with_reducible repeat (first | refine Cs.kn ?_ _ | refine Cs.kd1 ?_ | refine Cs.ka ?_ _)); exact BK138.out) hb); have n1_ := Cs.am (Cs.bp (by repeat (first | (with_reducible first | exact HB.out | apply Cs.ba | apply Cs.bn | apply Cs.bd | refine Cs.bs ?_ GE138.out) | exact HB.out)) hb); clear BK138; clear HB; have BK138 := n0_; have HB := n1_; clear n0_ n1_; (try clear hb); (try clear hb2); (try clear hk); (try clear hi)))
                        go_ret
                        exact ⟨by first | rfl | (simp [errW_none, errW_some] <;> rfl) | (simp [*, errW_none, errW_some] <;> rfl), by repeat (first | (with_reducible first | exact HB.out | apply Cs.ba | apply Cs.bn | apply Cs.bd | refine Cs.bs ?_ GE138.out) | exact HB.out)⟩
                    · rw [if_neg c125] at H
                      have c125b0 : ((l0_6.length : Int) == 0) = false := beq_eq_false_iff_ne.mpr c125
                      have c125b1 : ((l0_6.length : Int) != 0) = true := bne_iff_ne.mpr c125
                      have c125b2 : ¬ (l0_6 = []) := fun h_ => c125 (by rw [h_]; rfl)
                      obtain rfl := Option.some.inj H
                      go_enter Try.func105, Try.ntmps105
                      go_wp2_with (first | ((with_reducible refine gate_dst (N := 2) rfl ?_); refine box_event ?hg (N := 2) ?hd (cs := #[.int .i64 a0_0, .int .i64 a0_1, .int .i64 a0_2, .int .i64 a0_3, .string a0_4, .string a0_5, .slice A0_6 l0_6.length c0_6]) (t := 26) ?hr ?_; (case hd => rfl); (case hg => rfl); (case hr => first | (go_simp; done) | (go_simp; rfl)); intro gb138 hg w140 hbox hb; have n0_ := Cs.am (Cs.bp (by repeat (first | (with_reducible first | exact HB.out | apply Cs.ba | apply Cs.bn | apply Cs.bd) | exact HB.out)) hb); have n1_ := Cs.am (hbox); have n2_ := Cs.am ((by rw [hg]; exact (Cs.bz (by repeat (first | (with_reducible first | exact HB.out | apply Cs.ba | apply Cs.bn | apply Cs.bd) | exact HB.out))) : w.heap.size ≤ gb138)); have n3_ := Cs.am ((by rw [hg]; exact (Cs.bz (by repeat (first | (with_reducible first | exact HB.out | apply Cs.ba | apply Cs.bn | apply Cs.bd) | exact HB.out))) : w.heap.size ≤ gb138)); clear HB; have HB := n0_; have BK138 := n1_; have GW138 := n2_; have GE138 := n3_; clear n0_ n1_ n2_ n3_; clear hb hbox hg; obtain ⟨hcz141_0, hcz141_1, hcz141_2, hcz141_3, hcz141_4, hcz141_5, hcz141_6⟩ := Cs.cs7 BK138.out; obtain ⟨hfz141_0, hfz141_1, hfz141_2, hfz141_3, hfz141_4, hfz141_5⟩ := Cs.fz6 BK138.out; have hfz141_6 := blk_frozen BK138.out 6))
                      go_ret
                      exact ⟨by first | rfl | (simp [errW_none, errW_some] <;> rfl) | (simp [*, errW_none, errW_some] <;> rfl), by repeat (first | (with_reducible first | exact HB.out | apply Cs.ba | apply Cs.bn | apply Cs.bd | refine Cs.bs ?_ GE138.out) | exact HB.out)⟩
                  · replace c124 := Bool.eq_false_iff.mpr c124
                    subst c124
                    have H1 : (some false) = some r := by rw [if_neg (show ¬ (false = true) by decide)] at H; exact H
                    clear H
                    have H := H1
                    clear H1
                    obtain rfl := Option.some.inj H
                    go_enter Try.func105, Try.ntmps105
                    go_wp2_with (first | ((with_reducible refine gate_dst (N := 2) rfl ?_); refine box_event ?hg (N := 2) ?hd (cs := #[.int .i64 a0_0, .int .i64 a0_1, .int .i64 a0_2, .int .i64 a0_3, .string a0_4, .string a0_5, .slice A0_6 l0_6.length c0_6]) (t := 26) ?hr ?_; (case hd => rfl); (case hg => rfl); (case hr => first | (go_simp; done) | (go_simp; rfl)); intro gb138 hg w142 hbox hb; have n0_ := Cs.am (Cs.bp (by repeat (first | (with_reducible first | exact HB.out | apply Cs.ba | apply Cs.bn | apply Cs.bd) | exact HB.out)) hb); have n1_ := Cs.am (hbox); have n2_ := Cs.am ((by rw [hg]; exact (Cs.bz (by repeat (first | (with_reducible first | exact HB.out | apply Cs.ba | apply Cs.bn | apply Cs.bd) | exact HB.out))) : w.heap.size ≤ gb138)); have n3_ := Cs.am ((by rw [hg]; exact (Cs.bz (by repeat (first | (with_reducible first | exact HB.out | apply Cs.ba | apply Cs.bn | apply Cs.bd) | exact HB.out))) : w.heap.size ≤ gb138)); clear HB; have HB := n0_; have BK138 := n1_; have GW138 := n2_; have GE138 := n3_; clear n0_ n1_ n2_ n3_; clear hb hbox hg; obtain ⟨hcz143_0, hcz143_1, hcz143_2, hcz143_3, hcz143_4, hcz143_5, hcz143_6⟩ := Cs.cs7 BK138.out; obtain ⟨hfz143_0, hfz143_1, hfz143_2, hfz143_3, hfz143_4, hfz143_5⟩ := Cs.fz6 BK138.out; have hfz143_6 := blk_frozen BK138.out 6))
                    go_ret
                    exact ⟨by first | rfl | (simp [errW_none, errW_some] <;> rfl) | (simp [*, errW_none, errW_some] <;> rfl), by repeat (first | (with_reducible first | exact HB.out | apply Cs.ba | apply Cs.bn | apply Cs.bd | refine Cs.bs ?_ GE138.out) | exact HB.out)⟩
                · rw [if_neg c123] at H
                  have c123b0 : (a0_0 == 8) = false := beq_eq_false_iff_ne.mpr c123
                  have c123b1 : (a0_0 != 8) = true := bne_iff_ne.mpr c123
                  obtain rfl := Option.some.inj H
                  go_enter Try.func105, Try.ntmps105
                  go_wp2_with (first | ((with_reducible refine gate_dst (N := 2) rfl ?_); refine box_event ?hg (N := 2) ?hd (cs := #[.int .i64 a0_0, .int .i64 a0_1, .int .i64 a0_2, .int .i64 a0_3, .string a0_4, .string a0_5, .slice A0_6 l0_6.length c0_6]) (t := 26) ?hr ?_; (case hd => rfl); (case hg => rfl); (case hr => first | (go_simp; done) | (go_simp; rfl)); intro gb138 hg w144 hbox hb; have n0_ := Cs.am (Cs.bp (by repeat (first | (with_reducible first | exact HB.out | apply Cs.ba | apply Cs.bn | apply Cs.bd) | exact HB.out)) hb); have n1_ := Cs.am (hbox); have n2_ := Cs.am ((by rw [hg]; exact (Cs.bz (by repeat (first | (with_reducible first | exact HB.out | apply Cs.ba | apply Cs.bn | apply Cs.bd) | exact HB.out))) : w.heap.size ≤ gb138)); have n3_ := Cs.am ((by rw [hg]; exact (Cs.bz (by repeat (first | (with_reducible first | exact HB.out | apply Cs.ba | apply Cs.bn | apply Cs.bd) | exact HB.out))) : w.heap.size ≤ gb138)); clear HB; have HB := n0_; have BK138 := n1_; have GW138 := n2_; have GE138 := n3_; clear n0_ n1_ n2_ n3_; clear hb hbox hg; obtain ⟨hcz145_0, hcz145_1, hcz145_2, hcz145_3, hcz145_4, hcz145_5, hcz145_6⟩ := Cs.cs7 BK138.out; obtain ⟨hfz145_0, hfz145_1, hfz145_2, hfz145_3, hfz145_4, hfz145_5⟩ := Cs.fz6 BK138.out; have hfz145_6 := blk_frozen BK138.out 6))
                  go_ret
                  exact ⟨by first | rfl | (simp [errW_none, errW_some] <;> rfl) | (simp [*, errW_none, errW_some] <;> rfl), by repeat (first | (with_reducible first | exact HB.out | apply Cs.ba | apply Cs.bn | apply Cs.bd | refine Cs.bs ?_ GE138.out) | exact HB.out)⟩

-- NOT PRINTED: function 104 (expr_Check_1)

/-! ### expr_Check: function 54: by hand -/
def expr_Check.kids (g : S26 → Option Bool) : List S26 → Option Bool
  | [] => some true
  | x :: t => (g x).bind fun b => if b = true then expr_Check.kids g t else some false
def expr_Check.e (k : Nat) (s : Bool) : Nat → S26 → Option Bool
  | 0, _ => none
  | m + 1, x => (expr_right.f k x.f0 x.f1 x.f2.f0 x.f2.f1 x.f2.f2 x.f3 x.f4 s).bind fun b => if b = true then expr_Check.kids (expr_Check.e k s m) x.f4 else some false
def expr_Check.f (k : Nat) (a0_0 a0_1 a0_2 a0_3 : Int) (a0_4 a0_5 : ByteArray) (l0_6 : List S26) (a1 : Bool) : Option Int :=
  if expr_low.b 8 l0_6 = true then (expr_Check.e k a1 8 ⟨a0_0, a0_1, ⟨a0_2, a0_3, a0_4⟩, a0_5, l0_6⟩).bind fun b => some (if b = true then 0 else 2) else some 17
theorem expr_Check.kids_mono {g h : S26 → Option Bool} (hg : ∀ x, LeO (g x) (h x)) : ∀ l, LeO (expr_Check.kids g l) (expr_Check.kids h l)
  | [] => LeO.refl _
  | x :: t => LeO.bind (hg x) (fun b => LeO.ite (expr_Check.kids_mono hg t) (LeO.refl _))
theorem expr_Check.e_mono (k : Nat) (s : Bool) : ∀ m x, LeO (expr_Check.e k s m x) (expr_Check.e (k + 1) s m x)
  | 0, _ => LeO.refl _
  | m + 1, x => LeO.bind (expr_right.mono _ _ _ _ _ _ _ _ k) (fun b => LeO.ite (expr_Check.kids_mono (expr_Check.e_mono k s m) x.f4) (LeO.refl _))
theorem expr_Check.mono : ∀ a0 a1 a2 a3 a4 a5 a6 a7 k, LeO (expr_Check.f k a0 a1 a2 a3 a4 a5 a6 a7) (expr_Check.f (k + 1) a0 a1 a2 a3 a4 a5 a6 a7) := fun a0 a1 a2 a3 a4 a5 a6 a7 k => LeO.ite (LeO.bind (expr_Check.e_mono k a7 8 _) (fun _ => LeO.refl _)) (LeO.refl _)
theorem expr_Check.laid (w : World) (cs : Array Value) (t : TypeId) (o : Obj) (j : Nat) : ((w.alloc (.cells cs t)).alloc o).cell? ⟨w.heap.size, j, none⟩ = cs[j]? := by
  rw [World.cell?_alloc_past _ _ _ (by simp), World.cell?_alloc_new]
set_option maxHeartbeats 8000000 in
set_option maxRecDepth 100000 in
theorem expr_Check.one (k gb : Nat) (s r : Bool) (x : S26) (A : Option Addr) (c : Nat) (w : World) (hC : Kd.C k26 w A x.f4.length x.f4) (hc : x.f4.length ≤ c) (hcap : w.cell? ⟨gb, 0, none⟩ = some (.bool s)) (h : expr_right.f k x.f0 x.f1 x.f2.f0 x.f2.f1 x.f2.f2 x.f3 x.f4 s = some r) :
    Calls Try.prog 104 #[.agg #[.int .i64 x.f0, .int .i64 x.f1, .int .i64 x.f2.f0, .int .i64 x.f2.f1, .string x.f2.f2, .string x.f3, .slice A x.f4.length c], .pointer (some ⟨gb, 0, none⟩)] w fun e w' => e = .returned (.bool r) ∧ Below w.heap.size w w' := by
  have hu26 := Try.underlying26
  have hb1 : Below w.heap.size w (w.alloc (.cells #[.int .i64 x.f0, .int .i64 x.f1, .int .i64 x.f2.f0, .int .i64 x.f2.f1, .string x.f2.f2, .string x.f3, .slice A x.f4.length c] 26)) := below_alloc (Below.refl _ _) _
  have hcp := (hb1.cell (World.block_lt_of_cell? w _ hcap)).trans hcap
  have HCALL := Aside0.mk (expr_right.calls k x.f0 x.f1 x.f2.f0 x.f2.f1 x.f2.f2 x.f3 A c x.f4 s r _ (Kd.C_below hC hb1) hc h)
  have HB1 := Aside0.mk hb1
  clear hC hc h hb1 hcap
  go_enter Try.func104, Try.ntmps104
  go_wp2_with (first | (go_at_call 105; (with_reducible refine HCALL.out.mono ?_); rintro e w9 ⟨rfl, hb⟩; have HB := Aside0.mk (below_step HB1.out hb); (try clear hb)))
  go_ret
  exact ⟨rfl, HB.out⟩
set_option maxHeartbeats 8000000 in
set_option maxRecDepth 100000 in
theorem expr_Check.each (k gb : Nat) (s : Bool) : ∀ (m : Nat) (x : S26) (A : Option Addr) (c : Nat) (w : World) (r : Bool) (hC : Kd.C k26 w A x.f4.length x.f4) (hc : x.f4.length ≤ c) (hcap : w.cell? ⟨gb, 0, none⟩ = some (.bool s)) (h : expr_Check.e k s m x = some r),
    Calls Try.prog 103 #[.agg #[.int .i64 x.f0, .int .i64 x.f1, .int .i64 x.f2.f0, .int .i64 x.f2.f1, .string x.f2.f2, .string x.f3, .slice A x.f4.length c], .func (.func 104) #[] #[.pointer (some ⟨gb, 0, none⟩)]] w fun e w' => e = .returned (.bool r) ∧ Below w.heap.size w w' := by
  intro m
  induction m with
  | zero => intro x A c w r hC hc hcap h; exact absurd h (by simp [expr_Check.e])
  | succ m ih =>
  intro x A c w r hC hc hcap h
  have hu26 := Try.underlying26
  simp only [expr_Check.e] at h
  obtain ⟨b0, h0, h⟩ := Option.bind_eq_some_iff.mp h
  have hb1 : Below w.heap.size w (w.alloc (.cells #[.int .i64 x.f0, .int .i64 x.f1, .int .i64 x.f2.f0, .int .i64 x.f2.f1, .string x.f2.f2, .string x.f3, .slice A x.f4.length c] 26)) := below_alloc (Below.refl _ _) _
  have hcp := (hb1.cell (World.block_lt_of_cell? w _ hcap)).trans hcap
  have HCALL := Aside0.mk (expr_Check.one k gb s b0 x A c _ (Kd.C_below hC hb1) hc hcp h0)
  have HB1 := Aside0.mk hb1
  have HC := Aside0.mk hC
  have HM := Aside0.mk hC.2.1
  have HCAP := Aside0.mk hcap
  have HIH := Aside0.mk ih
  have HZ : Aside0 (∀ j, (w.alloc (.cells #[.int .i64 x.f0, .int .i64 x.f1, .int .i64 x.f2.f0, .int .i64 x.f2.f1, .string x.f2.f2, .string x.f3, .slice A x.f4.length c] 26)).cell? ⟨w.heap.size, j, none⟩ = (#[.int .i64 x.f0, .int .i64 x.f1, .int .i64 x.f2.f0, .int .i64 x.f2.f1, .string x.f2.f2, .string x.f3, .slice A x.f4.length c] : Array Value)[j]?) := ⟨fun j => World.cell?_alloc_new _ _ _ _⟩
  clear hC hc hb1 hcap hcp h0 ih
  by_cases hb0 : b0 = true
  · subst hb0
    rw [if_pos rfl] at h
    have HH := Aside0.mk h
    clear h
    go_enter Try.func103, Try.ntmps103
    go_wp2_with (first | (go_at_call 104; (with_reducible refine HCALL.out.mono ?_); rintro e w9 ⟨rfl, hb⟩; have HB := Aside0.mk (below_step HB1.out hb); have hz6 := (hb.cell (World.block_lt_of_cell? _ _ (HZ.out 6))).trans (HZ.out 6); simp only [List.getElem?_toArray, List.getElem?_cons_zero, List.getElem?_cons_succ] at hz6; (try clear hb)))
    go_loopw [14] (fun v14 wz => ∃ i : Nat, v14 = .int .i64 (i : Int) ∧ Aside0 (i ≤ x.f4.length) ∧ Aside0 (expr_Check.kids (expr_Check.e k s m) (x.f4.drop i) = some r) ∧ Aside0 (Below w.heap.size w wz)) (fun v14 _ => x.f4.length - (intOf v14).toNat)
    case atStart => exact ⟨0, rfl, ⟨Nat.zero_le _⟩, ⟨by rw [List.drop_zero]; exact HH.out⟩, HB⟩
    case round =>
      clear HB
      obtain ⟨i, rfl, HI, HA, HB⟩ := hrel
      by_cases hlt : i < x.f4.length
      · have d0 : decide ((i : Int) < (x.f4.length : Int)) = true := decide_eq_true (by omega)
        have d1 : decide (i < x.f4.length) = true := decide_eq_true hlt
        have HLT := Aside0.mk hlt
        have p0 : 0 ≤ (i : Int) := by omega
        have q0 : (i : Int) < (x.f4.length : Int) := by omega
        obtain ⟨ad, A6, c6, e0, h0, h1, h2, h3, h4, h5, h6, hl6, hg6⟩ := at_T26 HC.out i p0 q0
        cases e0
        simp only [Int.toNat_natCast] at h0 h1 h2 h3 h4 h5 h6
        have ex : rd_T26 x.f4 (i : Int) = x.f4[i] := by simp [rd_T26, List.getD_eq_getElem?_getD, hlt]
        have hk := HA.out
        rw [List.drop_eq_getElem_cons hlt, expr_Check.kids] at hk
        rw [ex] at h0 h1 h2 h3 h4 h5 h6 hl6 hg6
        generalize x.f4[i] = y at hk h0 h1 h2 h3 h4 h5 h6 hl6 hg6
        clear ex hlt
        replace h0 := (HB.out.cell (World.block_lt_of_cell? w _ h0)).trans h0
        replace h1 := (HB.out.cell (World.block_lt_of_cell? w _ h1)).trans h1
        replace h2 := (HB.out.cell (World.block_lt_of_cell? w _ h2)).trans h2
        replace h3 := (HB.out.cell (World.block_lt_of_cell? w _ h3)).trans h3
        replace h4 := (HB.out.cell (World.block_lt_of_cell? w _ h4)).trans h4
        replace h5 := (HB.out.cell (World.block_lt_of_cell? w _ h5)).trans h5
        replace h6 := (HB.out.cell (World.block_lt_of_cell? w _ h6)).trans h6
        replace p0 := eq_true p0
        replace q0 := eq_true q0
        obtain ⟨b1, hy, hk⟩ := Option.bind_eq_some_iff.mp hk
        have HY := Aside0.mk hy
        have HG6 := Aside0.mk hg6
        have HL6 := Aside0.mk hl6
        clear hy hg6 hl6
        have hw : wrap64 ((i : Int) + 1) = ((i + 1 : Nat) : Int) := by have h1 := HLT.out; have h2 := HM.out; unfold wrap64; omega
        have HW := Aside0.mk hw
        clear hw
        have HK := Aside0.mk hk
        clear hk
        by_cases hb1 : b1 = true
        · subst hb1
          go_wp2_with (first | ((with_reducible refine gate_dst (N := 6) rfl ?_); refine box_event ?hg (N := 6) ?hd (cs := #[.int .i64 0, .int .i64 0, .int .i64 0, .int .i64 0, .string (⟨#[]⟩ : ByteArray), .string (⟨#[]⟩ : ByteArray), .slice none 0 0]) (t := 26) ?hr ?_; (case hd => rfl); (case hg => rfl); (case hr => first | (go_simp; done) | (go_simp; rfl)); intro gbk hg w8 hbox hb; have GEk := Aside0.mk ((by rw [hg]; exact HB.out.size) : w.heap.size ≤ gbk); have n0_ := Aside0.mk (below_step HB.out hb); clear HB; have HB := n0_; clear n0_; have hcz_0 := blk_cell hbox 0; have hcz_1 := blk_cell hbox 1; have hcz_2 := blk_cell hbox 2; have hcz_3 := blk_cell hbox 3; have hcz_4 := blk_cell hbox 4; have hcz_5 := blk_cell hbox 5; have hcz_6 := blk_cell hbox 6; have hfz_0 := blk_frozen hbox 0; have hfz_1 := blk_frozen hbox 1; have hfz_2 := blk_frozen hbox 2; have hfz_3 := blk_frozen hbox 3; have hfz_4 := blk_frozen hbox 4; have hfz_5 := blk_frozen hbox 5; have hfz_6 := blk_frozen hbox 6; simp only [List.getElem?_toArray, List.getElem?_cons_zero, List.getElem?_cons_succ] at hcz_0 hcz_1 hcz_2 hcz_3 hcz_4 hcz_5 hcz_6; clear hb hbox hg) | (go_at_call 103; (with_reducible refine (HIH.out y A6 c6 _ true ?s1 HL6.out ?s3 HY.out).mono ?_); (case s1 => exact Kd.C_below HG6.out (by repeat (first | (with_reducible first | exact HB.out | apply below_alloc | apply pw_below_drewN | apply below_drew1 | refine below_set ?_ GEk.out) | exact HB.out))); (case s3 => exact ((show Below w.heap.size w _ from (by repeat (first | (with_reducible first | exact HB.out | apply below_alloc | apply pw_below_drewN | apply below_drew1 | refine below_set ?_ GEk.out) | exact HB.out))).cell (World.block_lt_of_cell? w _ HCAP.out)).trans HCAP.out); rintro e w10 ⟨rfl, hb⟩; have n0_ := Aside0.mk (below_step (by repeat (first | (with_reducible first | exact HB.out | apply below_alloc | apply pw_below_drewN | apply below_drew1 | refine below_set ?_ GEk.out) | exact HB.out)) hb); clear HB; have HB := n0_; clear n0_; (try clear hb)))
          go_roundw
          case rel => exact ⟨i + 1, congrArg (Value.int .i64) HW.out, ⟨HLT.out⟩, ⟨by simpa using HK.out⟩, HB⟩
          case measure => have h1 := HLT.out; rw [HW.out]; simp only [intOf, Int.toNat_natCast]; omega
        · replace hb1 := Bool.eq_false_iff.mpr hb1
          subst hb1
          go_wp2_with (first | ((with_reducible refine gate_dst (N := 6) rfl ?_); refine box_event ?hg (N := 6) ?hd (cs := #[.int .i64 0, .int .i64 0, .int .i64 0, .int .i64 0, .string (⟨#[]⟩ : ByteArray), .string (⟨#[]⟩ : ByteArray), .slice none 0 0]) (t := 26) ?hr ?_; (case hd => rfl); (case hg => rfl); (case hr => first | (go_simp; done) | (go_simp; rfl)); intro gbk hg w8 hbox hb; have GEk := Aside0.mk ((by rw [hg]; exact HB.out.size) : w.heap.size ≤ gbk); have n0_ := Aside0.mk (below_step HB.out hb); clear HB; have HB := n0_; clear n0_; have hcz_0 := blk_cell hbox 0; have hcz_1 := blk_cell hbox 1; have hcz_2 := blk_cell hbox 2; have hcz_3 := blk_cell hbox 3; have hcz_4 := blk_cell hbox 4; have hcz_5 := blk_cell hbox 5; have hcz_6 := blk_cell hbox 6; have hfz_0 := blk_frozen hbox 0; have hfz_1 := blk_frozen hbox 1; have hfz_2 := blk_frozen hbox 2; have hfz_3 := blk_frozen hbox 3; have hfz_4 := blk_frozen hbox 4; have hfz_5 := blk_frozen hbox 5; have hfz_6 := blk_frozen hbox 6; simp only [List.getElem?_toArray, List.getElem?_cons_zero, List.getElem?_cons_succ] at hcz_0 hcz_1 hcz_2 hcz_3 hcz_4 hcz_5 hcz_6; clear hb hbox hg) | (go_at_call 103; (with_reducible refine (HIH.out y A6 c6 _ false ?s1 HL6.out ?s3 HY.out).mono ?_); (case s1 => exact Kd.C_below HG6.out (by repeat (first | (with_reducible first | exact HB.out | apply below_alloc | apply pw_below_drewN | apply below_drew1 | refine below_set ?_ GEk.out) | exact HB.out))); (case s3 => exact ((show Below w.heap.size w _ from (by repeat (first | (with_reducible first | exact HB.out | apply below_alloc | apply pw_below_drewN | apply below_drew1 | refine below_set ?_ GEk.out) | exact HB.out))).cell (World.block_lt_of_cell? w _ HCAP.out)).trans HCAP.out); rintro e w10 ⟨rfl, hb⟩; have n0_ := Aside0.mk (below_step (by repeat (first | (with_reducible first | exact HB.out | apply below_alloc | apply pw_below_drewN | apply below_drew1 | refine below_set ?_ GEk.out) | exact HB.out)) hb); clear HB; have HB := n0_; clear n0_; (try clear hb)))
          go_ret
          exact ⟨by have := HK.out; rw [if_neg (by decide)] at this; cases this; rfl, HB.out⟩
      · have d0 : decide ((i : Int) < (x.f4.length : Int)) = false := decide_eq_false (by omega)
        have d1 : decide (i < x.f4.length) = false := decide_eq_false hlt
        have HLT := Aside0.mk hlt
        clear hlt
        go_wp2
        go_ret
        exact ⟨by have := HA.out; rw [List.drop_eq_nil_of_le (Nat.le_of_not_lt HLT.out)] at this; cases this; rfl, HB.out⟩
  · replace hb0 := Bool.eq_false_iff.mpr hb0
    subst hb0
    rw [if_neg (by decide)] at h
    obtain rfl := Option.some.inj h
    go_enter Try.func103, Try.ntmps103
    go_wp2_with (first | (go_at_call 104; (with_reducible refine HCALL.out.mono ?_); rintro e w9 ⟨rfl, hb⟩; have HB := Aside0.mk (below_step HB1.out hb); (try clear hb)))
    go_ret
    exact ⟨rfl, HB.out⟩
set_option maxHeartbeats 8000000 in
set_option maxRecDepth 100000 in
theorem expr_Check.calls (k : Nat) (a0_0 : Int) (a0_1 : Int) (a0_2 : Int) (a0_3 : Int) (a0_4 : ByteArray) (a0_5 : ByteArray) (A0_6 : Option Addr) (c0_6 : Nat) (l0_6 : List (S26)) (a1 : Bool) (r : Int) (w : World) (hr0_6 : Kd.C k26 w A0_6 l0_6.length l0_6) (hc0_6 : l0_6.length ≤ c0_6) (h : expr_Check.f k a0_0 a0_1 a0_2 a0_3 a0_4 a0_5 l0_6 a1 = some r) :
    Calls Try.prog 54 #[.agg #[.int .i64 a0_0, .int .i64 a0_1, .int .i64 a0_2, .int .i64 a0_3, .string a0_4, .string a0_5, .slice A0_6 l0_6.length c0_6], .bool a1] w fun e w' => e = .returned (.int .i64 r) ∧ Below w.heap.size w w' := by
  have hu26 := Try.underlying26
  have hb6 : Below w.heap.size w ((w.alloc (.cells #[.int .i64 a0_0, .int .i64 a0_1, .int .i64 a0_2, .int .i64 a0_3, .string a0_4, .string a0_5, .slice A0_6 l0_6.length c0_6] 26)).alloc (.cells #[.bool a1] 4)) := below_alloc (below_alloc (Below.refl _ _) _) _
  have hcy : ((w.alloc (.cells #[.int .i64 a0_0, .int .i64 a0_1, .int .i64 a0_2, .int .i64 a0_3, .string a0_4, .string a0_5, .slice A0_6 l0_6.length c0_6] 26)).alloc (.cells #[.bool a1] 4)).cell? ⟨w.heap.size + 1, 0, none⟩ = some (.bool a1) := expr_low.laid _ _ _ _
  have HZ : Aside0 (∀ j, ((w.alloc (.cells #[.int .i64 a0_0, .int .i64 a0_1, .int .i64 a0_2, .int .i64 a0_3, .string a0_4, .string a0_5, .slice A0_6 l0_6.length c0_6] 26)).alloc (.cells #[.bool a1] 4)).cell? ⟨w.heap.size, j, none⟩ = (#[.int .i64 a0_0, .int .i64 a0_1, .int .i64 a0_2, .int .i64 a0_3, .string a0_4, .string a0_5, .slice A0_6 l0_6.length c0_6] : Array Value)[j]?) := ⟨fun j => expr_Check.laid _ _ _ _ _⟩
  have HCALL := Aside0.mk (expr_low.calls a0_0 a0_1 a0_2 a0_3 a0_4 a0_5 A0_6 c0_6 l0_6 8 (expr_low.b 8 l0_6) _ (Kd.C_below hr0_6 hb6) hc0_6 (by unfold expr_low.f; rw [if_pos (by decide)]; rfl))
  have HB6 := Aside0.mk hb6
  have HCY := Aside0.mk hcy
  have HR := Aside0.mk hr0_6
  have HC := Aside0.mk hc0_6
  clear hr0_6 hc0_6 hb6 hcy
  unfold expr_Check.f at h
  by_cases hlow : expr_low.b 8 l0_6 = true
  · rw [if_pos hlow] at h
    rw [hlow] at HCALL
    obtain ⟨b, hb, h⟩ := Option.bind_eq_some_iff.mp h
    obtain rfl := Option.some.inj h
    have HE := Aside0.mk hb
    clear hb h hlow
    cases b with
    | false =>
      go_enter Try.func54, Try.ntmps54
      go_wp2_with (first | (go_at_call 102; (with_reducible refine HCALL.out.mono ?_); rintro e w9 ⟨rfl, hb⟩; have HB := Aside0.mk (below_step HB6.out hb); have hcap9 := (hb.cell (World.block_lt_of_cell? _ _ HCY.out)).trans HCY.out; have HCAP := Aside0.mk hcap9; clear hcap9; have hz0 := (hb.cell (World.block_lt_of_cell? _ _ (HZ.out 0))).trans (HZ.out 0); have hz1 := (hb.cell (World.block_lt_of_cell? _ _ (HZ.out 1))).trans (HZ.out 1); have hz2 := (hb.cell (World.block_lt_of_cell? _ _ (HZ.out 2))).trans (HZ.out 2); have hz3 := (hb.cell (World.block_lt_of_cell? _ _ (HZ.out 3))).trans (HZ.out 3); have hz4 := (hb.cell (World.block_lt_of_cell? _ _ (HZ.out 4))).trans (HZ.out 4); have hz5 := (hb.cell (World.block_lt_of_cell? _ _ (HZ.out 5))).trans (HZ.out 5); have hz6 := (hb.cell (World.block_lt_of_cell? _ _ (HZ.out 6))).trans (HZ.out 6); simp only [List.getElem?_toArray, List.getElem?_cons_zero, List.getElem?_cons_succ] at hz0 hz1 hz2 hz3 hz4 hz5 hz6; (try clear hb)) | (go_at_call 103; (with_reducible refine (expr_Check.each k (w.heap.size + 1) a1 8 ⟨a0_0, a0_1, ⟨a0_2, a0_3, a0_4⟩, a0_5, l0_6⟩ A0_6 c0_6 _ false (Kd.C_below HR.out HB.out) HC.out HCAP.out HE.out).mono ?_); rintro e w10 ⟨rfl, hb⟩; have n0_ := Aside0.mk (below_step HB.out hb); clear HB; have HB := n0_; clear n0_; (try clear hb)))
      go_ret
      exact ⟨rfl, HB.out⟩
    | true =>
      go_enter Try.func54, Try.ntmps54
      go_wp2_with (first | (go_at_call 102; (with_reducible refine HCALL.out.mono ?_); rintro e w9 ⟨rfl, hb⟩; have HB := Aside0.mk (below_step HB6.out hb); have hcap9 := (hb.cell (World.block_lt_of_cell? _ _ HCY.out)).trans HCY.out; have HCAP := Aside0.mk hcap9; clear hcap9; have hz0 := (hb.cell (World.block_lt_of_cell? _ _ (HZ.out 0))).trans (HZ.out 0); have hz1 := (hb.cell (World.block_lt_of_cell? _ _ (HZ.out 1))).trans (HZ.out 1); have hz2 := (hb.cell (World.block_lt_of_cell? _ _ (HZ.out 2))).trans (HZ.out 2); have hz3 := (hb.cell (World.block_lt_of_cell? _ _ (HZ.out 3))).trans (HZ.out 3); have hz4 := (hb.cell (World.block_lt_of_cell? _ _ (HZ.out 4))).trans (HZ.out 4); have hz5 := (hb.cell (World.block_lt_of_cell? _ _ (HZ.out 5))).trans (HZ.out 5); have hz6 := (hb.cell (World.block_lt_of_cell? _ _ (HZ.out 6))).trans (HZ.out 6); simp only [List.getElem?_toArray, List.getElem?_cons_zero, List.getElem?_cons_succ] at hz0 hz1 hz2 hz3 hz4 hz5 hz6; (try clear hb)) | (go_at_call 103; (with_reducible refine (expr_Check.each k (w.heap.size + 1) a1 8 ⟨a0_0, a0_1, ⟨a0_2, a0_3, a0_4⟩, a0_5, l0_6⟩ A0_6 c0_6 _ true (Kd.C_below HR.out HB.out) HC.out HCAP.out HE.out).mono ?_); rintro e w10 ⟨rfl, hb⟩; have n0_ := Aside0.mk (below_step HB.out hb); clear HB; have HB := n0_; clear n0_; (try clear hb)))
      go_ret
      exact ⟨rfl, HB.out⟩
  · replace hlow := Bool.eq_false_iff.mpr hlow
    rw [hlow] at h HCALL
    rw [if_neg (by decide)] at h
    obtain rfl := Option.some.inj h
    clear hlow
    go_enter Try.func54, Try.ntmps54
    go_wp2_with (first | (go_at_call 102; (with_reducible refine HCALL.out.mono ?_); rintro e w9 ⟨rfl, hb⟩; have HB := Aside0.mk (below_step HB6.out hb); have hcap9 := (hb.cell (World.block_lt_of_cell? _ _ HCY.out)).trans HCY.out; have HCAP := Aside0.mk hcap9; clear hcap9; (try clear hb)))
    go_ret
    exact ⟨rfl, HB.out⟩

/-! ### typing_one: function 106 -/
def typing_one.j0 : Nat → List Int → Int → Bool → Option (Int × Int)
  | 0, _, _, _ => none
  | k + 1, x0, x1, x13 => if x13 = true then (some (0, 37)) else (if 0 ≤ x1 then (if x1 < (x0.length : Int) then (if (rd x0 x1) < 0 then (some (0, 11)) else (if (rd x0 x1) > 3 then (some (0, 11)) else (some (rd x0 x1, 0)))) else (none)) else (none))
def typing_one.f (k : Nat) (l0 : List Int) (a1 : Int) : Option (Int × Int) := if a1 < 0 then (typing_one.j0 k l0 a1 true) else (typing_one.j0 k l0 a1 (decide (a1 ≥ (l0.length : Int))))
theorem typing_one.mono_l : ∀ k, (∀ y0 y1 y2, LeO (typing_one.j0 k y0 y1 y2) (typing_one.j0 (k + 1) y0 y1 y2))
  | 0 => fun _ _ _ r h => by simp [typing_one.j0] at h
  | k + 1 => by
    have ih0 := typing_one.mono_l k
    · intro y0 y1 y2
      unfold typing_one.j0
      repeat' first
      | (with_reducible exact ih0 _ _ _)
      | (with_reducible exact LeO.refl _)
      | (with_reducible exact LeO.none _)
      | (with_reducible refine LeO.ite ?_ ?_)
      | (with_reducible refine LeO.bind ?_ (fun _ => ?_))
      | exact ih0 _ _ _
      | exact LeO.none _
      | refine LeO.ite ?_ ?_
      | refine LeO.bind ?_ (fun _ => ?_)
theorem typing_one.mono : ∀ a0 a1 k, LeO (typing_one.f k a0 a1) (typing_one.f (k + 1) a0 a1) := by
  intro a0 a1 k
  have ih0 := typing_one.mono_l k
  unfold typing_one.f
  repeat' first
      | (with_reducible exact ih0 _ _ _)
      | (with_reducible exact LeO.refl _)
      | (with_reducible exact LeO.none _)
      | (with_reducible refine LeO.ite ?_ ?_)
      | (with_reducible refine LeO.bind ?_ (fun _ => ?_))
      | exact ih0 _ _ _
      | exact LeO.none _
      | refine LeO.ite ?_ ?_
      | refine LeO.bind ?_ (fun _ => ?_)
set_option maxHeartbeats 8000000 in
set_option maxRecDepth 100000 in
theorem typing_one.calls (k : Nat) (A0 : Option Addr) (c0 : Nat) (l0 : List Int) (a1 : Int) (r1 : Int) (r2 : Int) (w : World) (hr0 : Kd.C (Kd.int .i64) w A0 l0.length l0) (hc0 : l0.length ≤ c0) (h : typing_one.f k l0 a1 = some (r1, r2)) :
    Calls Try.prog 106 #[.slice A0 l0.length c0, .int .i64 a1] w fun e w' => e = .returned (.tuple #[.int .i64 r1, .int .i64 r2]) ∧ Drawn0 w w' := by
  have HR0 := Cs.am hr0
  have HC0 := Cs.am hc0
  clear hr0 hc0
  have H : (if a1 < 0 then (typing_one.j0 k l0 a1 true) else (typing_one.j0 k l0 a1 (decide (a1 ≥ (l0.length : Int))))) = some (r1, r2) := h
  clear h
  have HC3 := Cs.am H
  clear H
  go_enter Try.func106, Try.ntmps106
  go_upto_region 1 with (fail)
  go_cut [13] (fun v13 wc => ∃ (kq : Nat) (x13_2 : Bool), v13 = .bool x13_2 ∧ Aside0 (typing_one.j0 kq l0 a1 x13_2 = some (r1, r2)) ∧ Aside0 (kq ≤ k) ∧ Drawn0 w wc)
  case first =>
    have H := HC3.out
    clear HC3
    by_cases c4 : a1 < 0
    · rw [if_pos c4] at H
      have c4b0 : decide (a1 < 0) = true := decide_eq_true c4
      clear c4
      (first | rw [c4b0] | (simp only [i64_w, i32_w]; rw [c4b0]) | skip)
      have H' := Cs.am H
      clear H
      go_wp2
      go_meet
      case rel => exact ⟨_, (true), (by first | rfl | (simp; done) | (simp [*]; done)), H', ⟨by first | omega | exact Nat.le_refl _⟩, by repeat (first | exact Drawn0.refl _ | apply Drawn0.step)⟩
    · rw [if_neg c4] at H
      have c4b0 : decide (a1 < 0) = false := decide_eq_false c4
      clear c4
      (first | rw [c4b0] | (simp only [i64_w, i32_w]; rw [c4b0]) | skip)
      have H' := Cs.am H
      clear H
      go_wp2
      go_meet
      case rel => exact ⟨_, (decide (a1 ≥ (l0.length : Int))), (by first | rfl | (simp; done) | (simp [*]; done)), H', ⟨by first | omega | exact Nat.le_refl _⟩, by repeat (first | exact Drawn0.refl _ | apply Drawn0.step)⟩
  case rest =>
    clear HC3
    try clear c1
    try clear p2
    try clear c4
    try clear c4b0
    obtain ⟨kq, x13_2, rfl, HA, HJ2, ⟨mc2, rfl⟩⟩ := hcut
    cases kq with
    | zero => exact absurd HA.out (by simp [typing_one.j0])
    | succ kj2 =>
      have H := HA.out
      clear HA
      simp only [typing_one.j0] at H
      by_cases c5 : x13_2 = true
      · subst c5
        have H1 : (some (0, 37)) = some (r1, r2) := by rw [if_pos rfl] at H; exact H
        clear H
        have H := H1
        clear H1
        simp only [Option.some.injEq, Prod.mk.injEq] at H
        obtain ⟨rfl, rfl⟩ := H
        go_wp2
        go_ret2
        exact ⟨by first | rfl | (simp; done) | (simp [*]; done), by repeat (first | exact Drawn0.refl _ | apply Drawn0.step)⟩
      · replace c5 := Bool.eq_false_iff.mpr c5
        subst c5
        have H1 : (if 0 ≤ a1 then (if a1 < (l0.length : Int) then (if (rd l0 a1) < 0 then (some (0, 11)) else (if (rd l0 a1) > 3 then (some (0, 11)) else (some (rd l0 a1, 0)))) else (none)) else (none)) = some (r1, r2) := by rw [if_neg (show ¬ (false = true) by decide)] at H; exact H
        clear H
        have H := H1
        clear H1
        by_cases c6 : 0 ≤ a1
        · rw [if_pos c6] at H
          have c6b0 : decide (0 ≤ a1) = true := decide_eq_true c6
          clear c6
          by_cases c7 : a1 < (l0.length : Int)
          · rw [if_pos c7] at H
            have c7b0 : decide (a1 < (l0.length : Int)) = true := decide_eq_true c7
            clear c7
            by_cases c8 : (rd l0 a1) < 0
            · rw [if_pos c8] at H
              have c8b0 : decide ((rd l0 a1) < 0) = true := decide_eq_true c8
              clear c8
              simp only [Option.some.injEq, Prod.mk.injEq] at H
              obtain ⟨rfl, rfl⟩ := H
              have p151 : 0 ≤ (a1 : Int) := of_decide_eq_true (by first | (with_reducible assumption) | assumption)
              have q151 : a1 < (l0.length : Int) := of_decide_eq_true (by first | (with_reducible assumption) | assumption)
              obtain ⟨ad151, e151, hx151_0⟩ := Kd.at_int HR0.out a1 p151 q151
              cases e151
              replace p151 := eq_true p151
              replace q151 := eq_true q151
              go_wp2
              go_ret2
              exact ⟨by first | rfl | (simp; done) | (simp [*]; done), by repeat (first | exact Drawn0.refl _ | apply Drawn0.step)⟩
            · rw [if_neg c8] at H
              have c8b0 : decide ((rd l0 a1) < 0) = false := decide_eq_false c8
              clear c8
              by_cases c9 : (rd l0 a1) > 3
              · rw [if_pos c9] at H
                have c9b0 : decide (3 < (rd l0 a1)) = true := decide_eq_true c9
                clear c9
                simp only [Option.some.injEq, Prod.mk.injEq] at H
                obtain ⟨rfl, rfl⟩ := H
                have p151 : 0 ≤ (a1 : Int) := of_decide_eq_true (by first | (with_reducible assumption) | assumption)
                have q151 : a1 < (l0.length : Int) := of_decide_eq_true (by first | (with_reducible assumption) | assumption)
                obtain ⟨ad151, e151, hx151_0⟩ := Kd.at_int HR0.out a1 p151 q151
                cases e151
                replace p151 := eq_true p151
                replace q151 := eq_true q151
                have p152 : 0 ≤ (a1 : Int) := of_decide_eq_true (by first | (with_reducible assumption) | assumption)
                have q152 : a1 < (l0.length : Int) := of_decide_eq_true (by first | (with_reducible assumption) | assumption)
                obtain ⟨ad152, e152, hx152_0⟩ := Kd.at_int HR0.out a1 p152 q152
                obtain rfl : ad151 = ad152 := (by injection e152)
                replace p152 := eq_true p152
                replace q152 := eq_true q152
                go_wp2
                go_ret2
                exact ⟨by first | rfl | (simp; done) | (simp [*]; done), by repeat (first | exact Drawn0.refl _ | apply Drawn0.step)⟩
              · rw [if_neg c9] at H
                have c9b0 : decide (3 < (rd l0 a1)) = false := decide_eq_false c9
                clear c9
                simp only [Option.some.injEq, Prod.mk.injEq] at H
                obtain ⟨rfl, rfl⟩ := H
                have p151 : 0 ≤ (a1 : Int) := of_decide_eq_true (by first | (with_reducible assumption) | assumption)
                have q151 : a1 < (l0.length : Int) := of_decide_eq_true (by first | (with_reducible assumption) | assumption)
                obtain ⟨ad151, e151, hx151_0⟩ := Kd.at_int HR0.out a1 p151 q151
                cases e151
                replace p151 := eq_true p151
                replace q151 := eq_true q151
                have p152 : 0 ≤ (a1 : Int) := of_decide_eq_true (by first | (with_reducible assumption) | assumption)
                have q152 : a1 < (l0.length : Int) := of_decide_eq_true (by first | (with_reducible assumption) | assumption)
                obtain ⟨ad152, e152, hx152_0⟩ := Kd.at_int HR0.out a1 p152 q152
                obtain rfl : ad151 = ad152 := (by injection e152)
                replace p152 := eq_true p152
                replace q152 := eq_true q152
                have p153 : 0 ≤ (a1 : Int) := of_decide_eq_true (by first | (with_reducible assumption) | assumption)
                have q153 : a1 < (l0.length : Int) := of_decide_eq_true (by first | (with_reducible assumption) | assumption)
                obtain ⟨ad153, e153, hx153_0⟩ := Kd.at_int HR0.out a1 p153 q153
                obtain rfl : ad151 = ad153 := (by injection e153)
                replace p153 := eq_true p153
                replace q153 := eq_true q153
                go_wp2
                go_ret2
                exact ⟨by first | rfl | (simp; done) | (simp [*]; done), by repeat (first | exact Drawn0.refl _ | apply Drawn0.step)⟩
          · rw [if_neg c7] at H
            exact absurd H (by simp)
        · rw [if_neg c6] at H
          exact absurd H (by simp)

/-! ### typing_agree: function 134 -/
mutual
def typing_agree.l0 : Nat → Int → List Int → Int → Int → Option (Int × Bool)
  | 0, _, _, _, _ => none
  | k + 1, x4, x7, x8, x9 => if x9 < x8 then (if 0 ≤ x9 then (if x9 < (x7.length : Int) then (if (rd x7 x9) = 0 then (typing_agree.j1 k x4 (rd x7 x9) x7 x8 x9 false) else (if x4 = 0 then (typing_agree.j1 k x4 (rd x7 x9) x7 x8 x9 false) else (typing_agree.j1 k x4 (rd x7 x9) x7 x8 x9 ((rd x7 x9) != x4)))) else (none)) else (none)) else (some (x4, true))
def typing_agree.j1 : Nat → Int → Int → List Int → Int → Int → Bool → Option (Int × Bool)
  | 0, _, _, _, _, _, _ => none
  | k + 1, x4, x6, x7, x8, x9, x23 => if x23 = true then (some (0, false)) else (if x4 = 0 then (typing_agree.l0 k x6 x7 x8 (wrap64 (x9 + 1))) else (typing_agree.l0 k x4 x7 x8 (wrap64 (x9 + 1))))
end
def typing_agree.f (k : Nat) (l0 : List Int) : Option (Int × Bool) := typing_agree.l0 k 0 l0 (l0.length : Int) 0
theorem typing_agree.mono_l : ∀ k, (∀ y0 y1 y2 y3, LeO (typing_agree.l0 k y0 y1 y2 y3) (typing_agree.l0 (k + 1) y0 y1 y2 y3)) ∧ (∀ y0 y1 y2 y3 y4 y5, LeO (typing_agree.j1 k y0 y1 y2 y3 y4 y5) (typing_agree.j1 (k + 1) y0 y1 y2 y3 y4 y5))
  | 0 => ⟨fun _ _ _ _ r h => by simp [typing_agree.l0] at h, fun _ _ _ _ _ _ r h => by simp [typing_agree.j1] at h⟩
  | k + 1 => by
    obtain ⟨ih0, ih1⟩ := typing_agree.mono_l k
    refine ⟨?_, ?_⟩
    · intro y0 y1 y2 y3
      unfold typing_agree.l0
      repeat' first
      | (with_reducible exact ih0 _ _ _ _)
      | (with_reducible exact ih1 _ _ _ _ _ _)
      | (with_reducible exact LeO.refl _)
      | (with_reducible exact LeO.none _)
      | (with_reducible refine LeO.ite ?_ ?_)
      | (with_reducible refine LeO.bind ?_ (fun _ => ?_))
      | exact ih0 _ _ _ _
      | exact ih1 _ _ _ _ _ _
      | exact LeO.none _
      | refine LeO.ite ?_ ?_
      | refine LeO.bind ?_ (fun _ => ?_)
    · intro y0 y1 y2 y3 y4 y5
      unfold typing_agree.j1
      repeat' first
      | (with_reducible exact ih0 _ _ _ _)
      | (with_reducible exact ih1 _ _ _ _ _ _)
      | (with_reducible exact LeO.refl _)
      | (with_reducible exact LeO.none _)
      | (with_reducible refine LeO.ite ?_ ?_)
      | (with_reducible refine LeO.bind ?_ (fun _ => ?_))
      | exact ih0 _ _ _ _
      | exact ih1 _ _ _ _ _ _
      | exact LeO.none _
      | refine LeO.ite ?_ ?_
      | refine LeO.bind ?_ (fun _ => ?_)
theorem typing_agree.mono : ∀ a0 k, LeO (typing_agree.f k a0) (typing_agree.f (k + 1) a0) := by
  intro a0 k
  obtain ⟨ih0, ih1⟩ := typing_agree.mono_l k
  unfold typing_agree.f
  repeat' first
      | (with_reducible exact ih0 _ _ _ _)
      | (with_reducible exact ih1 _ _ _ _ _ _)
      | (with_reducible exact LeO.refl _)
      | (with_reducible exact LeO.none _)
      | (with_reducible refine LeO.ite ?_ ?_)
      | (with_reducible refine LeO.bind ?_ (fun _ => ?_))
      | exact ih0 _ _ _ _
      | exact ih1 _ _ _ _ _ _
      | exact LeO.none _
      | refine LeO.ite ?_ ?_
      | refine LeO.bind ?_ (fun _ => ?_)
set_option maxHeartbeats 8000000 in
set_option maxRecDepth 100000 in
theorem typing_agree.calls (k : Nat) (A0 : Option Addr) (c0 : Nat) (l0 : List Int) (r1 : Int) (r2 : Bool) (w : World) (hr0 : Kd.C (Kd.int .i64) w A0 l0.length l0) (hc0 : l0.length ≤ c0) (h : typing_agree.f k l0 = some (r1, r2)) :
    Calls Try.prog 134 #[.slice A0 l0.length c0] w fun e w' => e = .returned (.tuple #[.int .i64 r1, .bool r2]) ∧ Drawn0 w w' := by
  have HR0 := Cs.am hr0
  have HC0 := Cs.am hc0
  clear hr0 hc0
  have H : (typing_agree.l0 k 0 l0 (l0.length : Int) 0) = some (r1, r2) := h
  clear h
  have H' := Cs.am H
  clear H
  go_enter Try.func134, Try.ntmps134
  go_wp2
  go_loopg [4, 9] k (fun kq v4 v9 w' => ∃ (x4_1 : Int) (x9_1 : Int), v4 = .int .i64 x4_1 ∧ v9 = .int .i64 x9_1 ∧ Aside0 (typing_agree.l0 kq x4_1 l0 (l0.length : Int) x9_1 = some (r1, r2)) ∧ Aside0 (kq ≤ k) ∧ Drawn0 w w')
  case atStart => exact ⟨(0), (0), (by first | rfl | (simp; done) | (simp [*]; done)), (by first | rfl | (simp; done) | (simp [*]; done)), H', ⟨Nat.le_refl _⟩, by repeat (first | exact Drawn0.refl _ | apply Drawn0.step)⟩
  case round =>
    clear H'
    try clear c1
    obtain ⟨x4_1, x9_1, rfl, rfl, HA, HK1, ⟨m1, rfl⟩⟩ := hrel
    cases gk with
    | zero => exact absurd HA.out (by simp [typing_agree.l0])
    | succ k1 =>
      have H := HA.out
      clear HA
      simp only [typing_agree.l0] at H
      by_cases c2 : x9_1 < (l0.length : Int)
      · rw [if_pos c2] at H
        have c2b0 : decide (x9_1 < (l0.length : Int)) = true := decide_eq_true c2
        clear c2
        by_cases c3 : 0 ≤ x9_1
        · rw [if_pos c3] at H
          have c3b0 : decide (0 ≤ x9_1) = true := decide_eq_true c3
          clear c3
          by_cases c4 : x9_1 < (l0.length : Int)
          · rw [if_pos c4] at H
            have c4b0 : decide (x9_1 < (l0.length : Int)) = true := decide_eq_true c4
            clear c4
            have HC5 := Cs.am H
            clear H
            have p154 : 0 ≤ (x9_1 : Int) := of_decide_eq_true (by first | (with_reducible assumption) | assumption)
            have q154 : x9_1 < (l0.length : Int) := of_decide_eq_true (by first | (with_reducible assumption) | assumption)
            obtain ⟨ad154, e154, hx154_0⟩ := Kd.at_int HR0.out x9_1 p154 q154
            cases e154
            replace p154 := eq_true p154
            replace q154 := eq_true q154
            go_upto_region 5 with (fail)
            go_cut [23] (fun v23 wc => ∃ (kq : Nat) (x23_4 : Bool), v23 = .bool x23_4 ∧ Aside0 (typing_agree.j1 kq x4_1 (rd l0 x9_1) l0 (l0.length : Int) x9_1 x23_4 = some (r1, r2)) ∧ Aside0 (kq ≤ k1) ∧ Drawn0 w wc)
            case first =>
              have H := HC5.out
              clear HC5
              by_cases c6 : (rd l0 x9_1) = 0
              · rw [if_pos c6] at H
                have c6b0 : ((rd l0 x9_1) == 0) = true := beq_iff_eq.mpr c6
                have c6b1 : ((rd l0 x9_1) != 0) = false := bne_eq_false_iff_eq.mpr c6
                clear c6
                (first | rw [c6b0] | (simp only [i64_w, i32_w]; rw [c6b0]) | skip)
                have H' := Cs.am H
                clear H
                go_wp2
                go_meet
                case rel => exact ⟨_, (false), (by first | rfl | (simp; done) | (simp [*]; done)), H', ⟨by have := HK1.out; first | omega | exact Nat.le_refl _⟩, by repeat (first | exact Drawn0.refl _ | apply Drawn0.step)⟩
              · rw [if_neg c6] at H
                have c6b0 : ((rd l0 x9_1) == 0) = false := beq_eq_false_iff_ne.mpr c6
                have c6b1 : ((rd l0 x9_1) != 0) = true := bne_iff_ne.mpr c6
                (first | rw [c6b0] | (simp only [i64_w, i32_w]; rw [c6b0]) | skip)
                by_cases c7 : x4_1 = 0
                · rw [if_pos c7] at H
                  have c7b0 : (x4_1 == 0) = true := beq_iff_eq.mpr c7
                  have c7b1 : (x4_1 != 0) = false := bne_eq_false_iff_eq.mpr c7
                  clear c7
                  have H' := Cs.am H
                  clear H
                  go_wp2
                  go_meet
                  case rel => exact ⟨_, (false), (by first | rfl | (simp; done) | (simp [*]; done)), H', ⟨by have := HK1.out; first | omega | exact Nat.le_refl _⟩, by repeat (first | exact Drawn0.refl _ | apply Drawn0.step)⟩
                · rw [if_neg c7] at H
                  have c7b0 : (x4_1 == 0) = false := beq_eq_false_iff_ne.mpr c7
                  have c7b1 : (x4_1 != 0) = true := bne_iff_ne.mpr c7
                  have H' := Cs.am H
                  clear H
                  go_wp2
                  go_meet
                  case rel => exact ⟨_, (((rd l0 x9_1) != x4_1)), (by first | rfl | (simp; done) | (simp [*]; done)), H', ⟨by have := HK1.out; first | omega | exact Nat.le_refl _⟩, by repeat (first | exact Drawn0.refl _ | apply Drawn0.step)⟩
            case rest =>
              clear HC5
              try clear c1
              try clear p1
              try clear q1
              try clear hx1
              try clear c2
              try clear c2b0
              try clear p2
              try clear c3
              try clear c3b0
              try clear c4
              try clear c4b0
              try clear c6
              try clear c6b0
              try clear c6b1
              try clear c7
              try clear c7b0
              try clear c7b1
              try clear hx154_0
              try clear p154
              try clear q154
              obtain ⟨kq, x23_4, rfl, HA, HJ4, ⟨mc4, rfl⟩⟩ := hcut
              cases kq with
              | zero => exact absurd HA.out (by simp [typing_agree.j1])
              | succ kj4 =>
                have H := HA.out
                clear HA
                simp only [typing_agree.j1] at H
                by_cases c8 : x23_4 = true
                · subst c8
                  have H1 : (some (0, false)) = some (r1, r2) := by rw [if_pos rfl] at H; exact H
                  clear H
                  have H := H1
                  clear H1
                  simp only [Option.some.injEq, Prod.mk.injEq] at H
                  obtain ⟨rfl, rfl⟩ := H
                  go_wp2
                  go_ret2
                  exact ⟨by first | rfl | (simp; done) | (simp [*]; done), by repeat (first | exact Drawn0.refl _ | apply Drawn0.step)⟩
                · replace c8 := Bool.eq_false_iff.mpr c8
                  subst c8
                  have H1 : (if x4_1 = 0 then (typing_agree.l0 kj4 (rd l0 x9_1) l0 (l0.length : Int) (wrap64 (x9_1 + 1))) else (typing_agree.l0 kj4 x4_1 l0 (l0.length : Int) (wrap64 (x9_1 + 1)))) = some (r1, r2) := by rw [if_neg (show ¬ (false = true) by decide)] at H; exact H
                  clear H
                  have H := H1
                  clear H1
                  by_cases c9 : x4_1 = 0
                  · rw [if_pos c9] at H
                    have c9b0 : (x4_1 == 0) = true := beq_iff_eq.mpr c9
                    have c9b1 : (x4_1 != 0) = false := bne_eq_false_iff_eq.mpr c9
                    clear c9
                    have H' := Cs.am H
                    clear H
                    go_wp2
                    go_roundg kj4
                    case measure => have := HK1.out; have := HJ4.out; omega
                    case rel => exact ⟨((rd l0 x9_1)), (wrap64 (x9_1 + 1)), (by first | rfl | (simp; done) | (simp [*]; done)), (by first | rfl | (simp; done) | (simp [*]; done)), H', ⟨by have := HK1.out; have := HJ4.out; omega⟩, by repeat (first | exact Drawn0.refl _ | apply Drawn0.step)⟩
                  · rw [if_neg c9] at H
                    have c9b0 : (x4_1 == 0) = false := beq_eq_false_iff_ne.mpr c9
                    have c9b1 : (x4_1 != 0) = true := bne_iff_ne.mpr c9
                    have H' := Cs.am H
                    clear H
                    go_wp2
                    go_roundg kj4
                    case measure => have := HK1.out; have := HJ4.out; omega
                    case rel => exact ⟨(x4_1), (wrap64 (x9_1 + 1)), (by first | rfl | (simp; done) | (simp [*]; done)), (by first | rfl | (simp; done) | (simp [*]; done)), H', ⟨by have := HK1.out; have := HJ4.out; omega⟩, by repeat (first | exact Drawn0.refl _ | apply Drawn0.step)⟩
          · rw [if_neg c4] at H
            exact absurd H (by simp)
        · rw [if_neg c3] at H
          exact absurd H (by simp)
      · rw [if_neg c2] at H
        have c2b0 : decide (x9_1 < (l0.length : Int)) = false := decide_eq_false c2
        clear c2
        simp only [Option.some.injEq, Prod.mk.injEq] at H
        obtain ⟨rfl, rfl⟩ := H
        go_wp2
        go_ret2
        exact ⟨by first | rfl | (simp; done) | (simp [*]; done), by repeat (first | exact Drawn0.refl _ | apply Drawn0.step)⟩

/-! ### typing_takes: function 157 -/
def typing_takes.f (k : Nat) (a0 : Int) (l1 : List Int) : Option (Bool) := (some (([a0] : List Int) : List Int)).bind fun y155 => (if y155.length + l1.length < 17592186044416 then ((typing_agree.f k (y155 ++ l1)).bind fun bt161 => (some bt161.2)) else (none))
theorem typing_takes.mono : ∀ a0 a1 k, LeO (typing_takes.f k a0 a1) (typing_takes.f (k + 1) a0 a1) := by
  intro a0 a1 k
  unfold typing_takes.f
  repeat' first
      | (with_reducible exact typing_agree.mono _ _)
      | (with_reducible exact LeO.refl _)
      | (with_reducible exact LeO.none _)
      | (with_reducible refine LeO.ite ?_ ?_)
      | (with_reducible refine LeO.bind ?_ (fun _ => ?_))
      | exact typing_agree.mono _ _
      | exact LeO.none _
      | refine LeO.ite ?_ ?_
      | refine LeO.bind ?_ (fun _ => ?_)
set_option maxHeartbeats 8000000 in
set_option maxRecDepth 100000 in
theorem typing_takes.calls (k : Nat) (a0 : Int) (A1 : Option Addr) (c1 : Nat) (l1 : List Int) (r : Bool) (w : World) (hr1 : Kd.C (Kd.int .i64) w A1 l1.length l1) (hc1 : l1.length ≤ c1) (h : typing_takes.f k a0 l1 = some r) :
    Calls Try.prog 157 #[.int .i64 a0, .slice A1 l1.length c1] w fun e w' => e = .returned (.bool r) ∧ Below w.heap.size w w' := by
  have HR1 := Cs.am hr1
  have HC1 := Cs.am hc1
  clear hr1 hc1
  have HB := Cs.am (Below.refl w.heap.size w)
  have H : ((some (([a0] : List Int) : List Int)).bind fun y155 => (if y155.length + l1.length < 17592186044416 then ((typing_agree.f k (y155 ++ l1)).bind fun bt161 => (some bt161.2)) else (none))) = some r := h
  clear h
  obtain ⟨y155, hy155⟩ : ∃ y_ : List Int, y_ = (([a0] : List Int)) := ⟨_, rfl⟩
  replace H : (if y155.length + l1.length < 17592186044416 then ((typing_agree.f k (y155 ++ l1)).bind fun bt161 => (some bt161.2)) else (none)) = some r := by first | (rw [hy155]; with_reducible exact H) | (have H2_ := (Option.bind_some _ _).symm.trans H; rw [hy155]; with_reducible exact H2_) | (have H2_ := (Option.bind_some _ _).symm.trans H; with_reducible exact H2_) | with_reducible exact H | (rw [hy155]; exact H) | exact H
  have Ny155 := Cs.am hy155
  clear hy155
  by_cases c3 : y155.length + l1.length < 17592186044416
  · rw [if_pos c3] at H
    have LMc3 := Cs.am c3
    clear c3
    obtain ⟨y158, hy158⟩ : ∃ y_ : List Int, y_ = (y155 ++ l1) := ⟨_, rfl⟩
    replace H : ((typing_agree.f k y158).bind fun bt161 => (some bt161.2)) = some r := by first | (rw [hy158]; with_reducible exact H) | (have H2_ := (Option.bind_some _ _).symm.trans H; rw [hy158]; with_reducible exact H2_) | (have H2_ := (Option.bind_some _ _).symm.trans H; with_reducible exact H2_) | with_reducible exact H | (rw [hy158]; exact H) | exact H
    have Ny158 := Cs.am hy158
    clear hy158
    replace H := Option.bind_eq_some_iff.mp H
    obtain ⟨⟨t161, t162⟩, A40, H⟩ := H
    replace H : (some t162) = some r := H
    have A4 := Cs.am A40
    clear A40
    obtain rfl := Option.some.inj H
    go_enter Try.func157, Try.ntmps157
    go_wp2_with (first | ((with_reducible refine gate_dst (N := 9) rfl ?_); refine Kd.R_lit (Kd.int .i64) _ 3 ?hg (N := 9) ?hd (xs := ([a0] : List Int)) (inner := [.int .i64 a0]) (ok := fun _ => True) (okp := fun _ => True) ?hr ?hp (fun _ hk => hk) trivial (Below.refl _ _) (Nat.le_refl _) (by simp) ?_; (case hd => rfl); (case hg => rfl); (case hr => first | (go_simp; done) | (go_simp; rfl)); (case hp => exact (Reps.one (show Kd.M (Kd.int .i64) _ _ _ a0 [.int .i64 a0] from rfl) (Reps.none _ _))); intro v156 w5 ho6 hb hg_ hnew_; clear hg_ hnew_; (first | rw [← Ny155.out] at ho6 | (simp only [Int.reduceToNat] at ho6; rw [← Ny155.out] at ho6)); have n0_ := Cs.am (Kd.R_lower ho6 (Cs.bz (by repeat (first | (with_reducible first | exact HB.out | apply Cs.ba | apply Cs.bn | apply Cs.bd) | exact HB.out)))); have n1_ := Cs.am (Cs.bp (by repeat (first | (with_reducible first | exact HB.out | apply Cs.ba | apply Cs.bn | apply Cs.bd) | exact HB.out)) hb); clear HB; have HO157 := n0_; have HB := n1_; clear n0_ n1_; clear hb ho6) | ((with_reducible refine gate_builtin (b := .append) (xs := #[.tmp 9, .tmp 10]) rfl ?_); at_builtin; refine Kd.R_append_rows (Kd.int .i64) (w0 := w) w.heap.size rfl (.tmp 9) (.tmp 10) 27 3 (.int .i64 0) 8 rfl Try.underlying27 info3 rfl (by decide) (by omega) v156 y155 l1 _ _ _ (fun _ => True) (fun _ => False) rfl rfl ?aO ?aR (fun _ _ h => h) (fun _ h => h.elim) ?aF ?aB ?aS ?aL ?_; (case aR => repeat (first | exact (Cs.cb HR1.out HB.out) | (with_reducible refine Cs.ca ?_ _) | (with_reducible refine Cs.cn ?_ _) | (with_reducible refine Cs.cd1 ?_))); (case aB => exact (by repeat (first | (with_reducible first | exact HB.out | apply Cs.ba | apply Cs.bn | apply Cs.bd) | exact HB.out))); (case aF => exact (fun _ _ => trivial)); (case aO => exact (by (with_reducible repeat (first | apply Cs.ra | apply Cs.rn | apply Cs.rd1)); exact HO157.out)); (case aS => exact (Cs.bz (by repeat (first | (with_reducible first | exact HB.out | apply Cs.ba | apply Cs.bn | apply Cs.bd) | exact HB.out)))); (case aL => have := LMc3.out; omega); intro v159 w7 ho hb hg hat; rw [← Ny158.out] at ho; have n0_ := Cs.am (hb); have n1_ := Cs.am (ho); clear HB; clear HO157; have HB := n0_; have HO160 := n1_; clear n0_ n1_; clear ho hb hg hat; obtain ⟨Ao8, co8, eo8⟩ := Kd.R_slice HO160.out; subst eo8) | ((with_reducible refine gate_callee (f := 134) rfl ?_); refine goesL_ (some 12) rfl rfl Try.func134 (by kernel_rfl) rfl #[.slice Ao8 y158.length co8] rfl (by (try simp only [List.map_toArray, List.map_cons, List.map_nil]); first | done | rfl | (simp only [List.length_drop, List.length_take]; rfl)) ?_; (with_reducible refine (typing_agree.calls k _ _ y158 t161 t162 _ ?side1 ?side2 A4.out).mono ?_); (case side1 => repeat (first | exact (Kd.R_reads' HO160.out).2.2 | (with_reducible refine Cs.ca ?_ _) | (with_reducible refine Cs.cn ?_ _) | (with_reducible refine Cs.cd1 ?_))); (case side2 => exact (Kd.R_reads' HO160.out).2.1); rintro e w' ⟨rfl, ⟨nd, rfl⟩⟩; refine ⟨_, rfl, ?_⟩))
    go_ret
    exact ⟨by first | rfl | (simp [errW_none, errW_some] <;> rfl) | (simp [*, errW_none, errW_some] <;> rfl), by repeat (first | (with_reducible first | exact HB.out | apply Cs.ba | apply Cs.bn | apply Cs.bd) | exact HB.out)⟩
  · rw [if_neg c3] at H
    exact absurd H (by simp)

/-! ### typing_called: function 135 -/
def typing_called.f (k : Nat) (a0 : ByteArray) (l1 : List Int) : Option (Int × Bool) := if a0.toList = ([108, 101, 110, 103, 116, 104] : List UInt8) then ((typing_takes.f k 3 l1).bind fun t163 => (some (1, t163))) else (if a0.toList = ([97, 98, 115] : List UInt8) then ((typing_takes.f k 1 l1).bind fun t164 => (some (1, t164))) else ((typing_agree.f k l1).bind fun bt165 => (some (bt165.1, bt165.2))))
theorem typing_called.mono : ∀ a0 a1 k, LeO (typing_called.f k a0 a1) (typing_called.f (k + 1) a0 a1) := by
  intro a0 a1 k
  unfold typing_called.f
  repeat' first
      | (with_reducible exact typing_agree.mono _ _)
      | (with_reducible exact typing_takes.mono _ _ _)
      | (with_reducible exact LeO.refl _)
      | (with_reducible exact LeO.none _)
      | (with_reducible refine LeO.ite ?_ ?_)
      | (with_reducible refine LeO.bind ?_ (fun _ => ?_))
      | exact typing_agree.mono _ _
      | exact typing_takes.mono _ _ _
      | exact LeO.none _
      | refine LeO.ite ?_ ?_
      | refine LeO.bind ?_ (fun _ => ?_)
set_option maxHeartbeats 8000000 in
set_option maxRecDepth 100000 in
theorem typing_called.calls (k : Nat) (a0 : ByteArray) (A1 : Option Addr) (c1 : Nat) (l1 : List Int) (r1 : Int) (r2 : Bool) (w : World) (hr1 : Kd.C (Kd.int .i64) w A1 l1.length l1) (hc1 : l1.length ≤ c1) (h : typing_called.f k a0 l1 = some (r1, r2)) :
    Calls Try.prog 135 #[.string a0, .slice A1 l1.length c1] w fun e w' => e = .returned (.tuple #[.int .i64 r1, .bool r2]) ∧ Below w.heap.size w w' := by
  have HR1 := Cs.am hr1
  have HC1 := Cs.am hc1
  clear hr1 hc1
  have HB := Cs.am (Below.refl w.heap.size w)
  have H : (if a0.toList = ([108, 101, 110, 103, 116, 104] : List UInt8) then ((typing_takes.f k 3 l1).bind fun t163 => (some (1, t163))) else (if a0.toList = ([97, 98, 115] : List UInt8) then ((typing_takes.f k 1 l1).bind fun t164 => (some (1, t164))) else ((typing_agree.f k l1).bind fun bt165 => (some (bt165.1, bt165.2))))) = some (r1, r2) := h
  clear h
  by_cases c3 : a0.toList = ([108, 101, 110, 103, 116, 104] : List UInt8)
  · rw [if_pos c3] at H
    have c3b0 : (a0.toList == ([108, 101, 110, 103, 116, 104] : List UInt8)) = true := beq_iff_eq.mpr c3
    have c3b1 : (a0.toList != ([108, 101, 110, 103, 116, 104] : List UInt8)) = false := bne_eq_false_iff_eq.mpr c3
    clear c3
    replace H := Option.bind_eq_some_iff.mp H
    obtain ⟨t163, A40, H⟩ := H
    replace H : (some (1, t163)) = some (r1, r2) := H
    have A4 := Cs.am A40
    clear A40
    simp only [Option.some.injEq, Prod.mk.injEq] at H
    obtain ⟨rfl, rfl⟩ := H
    go_enter Try.func135, Try.ntmps135
    go_wp2_with (first | ((with_reducible refine gate_callee (f := 157) rfl ?_); refine goesL_ (some 10) rfl rfl Try.func157 (by kernel_rfl) rfl #[.int .i64 3, .slice A1 l1.length c1] rfl (by (try simp only [List.map_toArray, List.map_cons, List.map_nil]); first | done | rfl | (simp only [List.length_drop, List.length_take]; rfl)) ?_; (with_reducible refine (typing_takes.calls k 3 _ _ l1 t163 _ ?side1 ?side2 A4.out).mono ?_); (case side1 => repeat (first | exact HR1.out | (with_reducible refine Cs.ca ?_ _) | (with_reducible refine Cs.cn ?_ _) | (with_reducible refine Cs.cd1 ?_))); (case side2 => exact HC1.out); rintro e w5 ⟨rfl, hb⟩; refine ⟨_, rfl, ?_⟩; have n0_ := Cs.am (Cs.bp (by repeat (first | (with_reducible first | exact HB.out | apply Cs.ba | apply Cs.bn | apply Cs.bd) | exact HB.out)) hb); clear HB; have HB := n0_; clear n0_; (try clear hb); (try clear hb2); (try clear hk); (try clear hi)))
    go_ret2
    exact ⟨by first | rfl | (simp [errW_none, errW_some] <;> rfl) | (simp [*, errW_none, errW_some] <;> rfl), by repeat (first | (with_reducible first | exact HB.out | apply Cs.ba | apply Cs.bn | apply Cs.bd) | exact HB.out)⟩
  · rw [if_neg c3] at H
    have c3b0 : (a0.toList == ([108, 101, 110, 103, 116, 104] : List UInt8)) = false := beq_eq_false_iff_ne.mpr c3
    have c3b1 : (a0.toList != ([108, 101, 110, 103, 116, 104] : List UInt8)) = true := bne_iff_ne.mpr c3
    by_cases c6 : a0.toList = ([97, 98, 115] : List UInt8)
    · rw [if_pos c6] at H
      have c6b0 : (a0.toList == ([97, 98, 115] : List UInt8)) = true := beq_iff_eq.mpr c6
      have c6b1 : (a0.toList != ([97, 98, 115] : List UInt8)) = false := bne_eq_false_iff_eq.mpr c6
      clear c6
      replace H := Option.bind_eq_some_iff.mp H
      obtain ⟨t164, A70, H⟩ := H
      replace H : (some (1, t164)) = some (r1, r2) := H
      have A7 := Cs.am A70
      clear A70
      simp only [Option.some.injEq, Prod.mk.injEq] at H
      obtain ⟨rfl, rfl⟩ := H
      go_enter Try.func135, Try.ntmps135
      go_wp2_with (first | ((with_reducible refine gate_callee (f := 157) rfl ?_); refine goesL_ (some 14) rfl rfl Try.func157 (by kernel_rfl) rfl #[.int .i64 1, .slice A1 l1.length c1] rfl (by (try simp only [List.map_toArray, List.map_cons, List.map_nil]); first | done | rfl | (simp only [List.length_drop, List.length_take]; rfl)) ?_; (with_reducible refine (typing_takes.calls k 1 _ _ l1 t164 _ ?side1 ?side2 A7.out).mono ?_); (case side1 => repeat (first | exact HR1.out | (with_reducible refine Cs.ca ?_ _) | (with_reducible refine Cs.cn ?_ _) | (with_reducible refine Cs.cd1 ?_))); (case side2 => exact HC1.out); rintro e w8 ⟨rfl, hb⟩; refine ⟨_, rfl, ?_⟩; have n0_ := Cs.am (Cs.bp (by repeat (first | (with_reducible first | exact HB.out | apply Cs.ba | apply Cs.bn | apply Cs.bd) | exact HB.out)) hb); clear HB; have HB := n0_; clear n0_; (try clear hb); (try clear hb2); (try clear hk); (try clear hi)))
      go_ret2
      exact ⟨by first | rfl | (simp [errW_none, errW_some] <;> rfl) | (simp [*, errW_none, errW_some] <;> rfl), by repeat (first | (with_reducible first | exact HB.out | apply Cs.ba | apply Cs.bn | apply Cs.bd) | exact HB.out)⟩
    · rw [if_neg c6] at H
      have c6b0 : (a0.toList == ([97, 98, 115] : List UInt8)) = false := beq_eq_false_iff_ne.mpr c6
      have c6b1 : (a0.toList != ([97, 98, 115] : List UInt8)) = true := bne_iff_ne.mpr c6
      replace H := Option.bind_eq_some_iff.mp H
      obtain ⟨⟨t165, t166⟩, A90, H⟩ := H
      replace H : (some (t165, t166)) = some (r1, r2) := H
      have A9 := Cs.am A90
      clear A90
      simp only [Option.some.injEq, Prod.mk.injEq] at H
      obtain ⟨rfl, rfl⟩ := H
      go_enter Try.func135, Try.ntmps135
      go_wp2_with (first | ((with_reducible refine gate_callee (f := 134) rfl ?_); refine goesL_ (some 16) rfl rfl Try.func134 (by kernel_rfl) rfl #[.slice A1 l1.length c1] rfl (by (try simp only [List.map_toArray, List.map_cons, List.map_nil]); first | done | rfl | (simp only [List.length_drop, List.length_take]; rfl)) ?_; (with_reducible refine (typing_agree.calls k _ _ l1 t165 t166 _ ?side1 ?side2 A9.out).mono ?_); (case side1 => repeat (first | exact HR1.out | (with_reducible refine Cs.ca ?_ _) | (with_reducible refine Cs.cn ?_ _) | (with_reducible refine Cs.cd1 ?_))); (case side2 => exact HC1.out); rintro e w' ⟨rfl, ⟨nd, rfl⟩⟩; refine ⟨_, rfl, ?_⟩))
      go_ret2
      exact ⟨by first | rfl | (simp [errW_none, errW_some] <;> rfl) | (simp [*, errW_none, errW_some] <;> rfl), by repeat (first | (with_reducible first | exact HB.out | apply Cs.ba | apply Cs.bn | apply Cs.bd) | exact HB.out)⟩

end Go.Proofs.Ytbmgenifdlgbmaa.Q

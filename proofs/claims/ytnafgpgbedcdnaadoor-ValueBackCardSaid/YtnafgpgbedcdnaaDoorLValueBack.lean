/- Words and contracts: a plain machine over the model, and what the functions that a law reaches come to, each for every input that its theorem names. -/
import Derived.Test.YtnafgpgbedcdnaaDoorK3
namespace Go.Proofs.YtnafgpgbedcdnaaDoor.D
set_option linter.unusedVariables false
set_option linter.unusedSimpArgs false
open Go Go.Proofs.YtnafgpgbedcdnaaDoor.D.Pm
set_option maxRecDepth 4000
theorem showV_size {v : Val} (h64 : in64 v.n) (hs : v.s.size ≤ 200) : (showV v).size ≤ 1000 := by
  unfold showV
  repeat' split
  · decide
  · have := (digB_size h64).2; omega
  · decide
  · decide
  · show (39 :: (quoteL v.s.data.toList ++ [39])).length ≤ 1000
    have := quoteL_len v.s.data.toList
    rw [size_list] at this
    simp; omega
  · decide
theorem readV_in {s : ByteArray} (hs : s.size ≤ 1000) : in64 (readV s).1.n ∧ (readV s).1.s.size ≤ 1000 := by
  have h0 : in64 zeroV.n ∧ zeroV.s.size ≤ 1000 := ⟨by unfold in64 zeroV; decide, by decide⟩
  unfold readV
  split
  · exact h0
  split
  · exact ⟨by unfold in64; decide, by decide⟩
  split
  · exact ⟨by unfold in64; decide, by decide⟩
  split
  · unfold unqV
    split
    · exact h0
    split
    · exact h0
    split
    · exact h0
    · refine ⟨show in64 0 by unfold in64; decide, ?_⟩
      show (rep2 [39] (innB s).data.toList).length ≤ 1000
      omega
  split
  · rename_i hz
    exact ⟨(digB_read (show readZ s = ((readZ s).1, 0) by rw [← hz])).1, show (0 : Nat) ≤ 1000 by decide⟩
  · exact h0
theorem in64_of {n : Int} (h : I64 n) : in64 n := by
  unfold I64 at h
  simp [Lit.wf, IntKind.min, IntKind.max, IntKind.bits, IntKind.signed] at h
  unfold in64
  omega
set_option maxHeartbeats 2000000 in
theorem back_does (v : Val) (s : ByteArray) (h64 : in64 v.n) {st : Sto} {id : Nat} {m : Int} (hm : MaxL st id m) : Does Tryd.prog 3 [.g (eV v), vS s] st fun r s' => r = vB true ∧ s' = st := by
  have hl := long_is [v] (by show 1 ≤ Big; unfold Big; decide)
  have hwk := fun st (h : MaxL st id m) => works03_does h
  refine Does.of TP Tryd.func3 rfl rfl (Nat.le_of_ble_eq_true rfl) (Pw.of TP [] ?_)
  conv => whnf
  refine Is.callB hl fun q hq => ?_
  cases q <;> conv => whnf
  rotate_left
  · refine (hwk _ hm).mono fun r s1 h1 => ?_
    obtain ⟨rfl, rfl⟩ := h1
    conv => whnf
    exact Fin.same rfl (.refl _) ⟨rfl, rfl⟩
  have hv : v.s.size ≤ 200 := by
    have : longV v = false := by simpa [List.any_cons] using hq
    have := of_decide_eq_false this
    omega
  clear hq
  refine ⟨fun g => ?_, fun g => ?_⟩ <;> conv => whnf
  · refine (hwk _ hm).mono fun r s1 h1 => ?_
    obtain ⟨rfl, rfl⟩ := h1
    conv => whnf
    exact Fin.same rfl (.refl _) ⟨rfl, rfl⟩
  have hs : s.size ≤ 1000 := by omega
  have hsh := vshow_is v h64 (by omega)
  have hr1 := fun st (h : MaxL st id m) => vread_does (showV v) (showV_size h64 hv) h
  have hr2 := fun st (h : MaxL st id m) => vread_does s hs h
  have hrt := fun h : vright v = true => readV_show h64 h
  have hvr := vright_is v (by unfold Big; omega)
  have hx := readV_in hs
  have hbk := fun x (h : readV s = (x, 0)) => show_readV h
  refine hsh.call ?_
  conv => whnf
  refine (hr1 _ hm).mono fun r s1 h1 => ?_
  obtain ⟨rfl, rfl⟩ := h1
  clear hr1 hsh
  generalize readV (showV v) = y at hrt ⊢
  obtain ⟨⟨k, n, t⟩, e⟩ := y
  conv => whnf
  refine Is.callB hvr fun b hb => ?_
  cases b <;> conv => whnf
  · skip
    refine (hr2 _ hm).mono fun r s1 h1 => ?_
    obtain ⟨rfl, rfl⟩ := h1
    clear hr2
    have hxn := hx.1
    have hxs := hx.2
    have hsx := vshow_is (readV s).1 hxn hxs
    have hvx := vright_is (readV s).1 (by unfold Big; omega)
    generalize readV s = y2 at hbk hsx hvx ⊢
    obtain ⟨⟨k2, n2, t2⟩, e2⟩ := y2
    conv => whnf
    refine ⟨fun g2 => ?_, fun g2 => ?_⟩ <;> conv => whnf
    · refine (hwk _ hm).mono fun r s1 h1 => ?_
      obtain ⟨rfl, rfl⟩ := h1
      conv => whnf
      exact Fin.same rfl (.refl _) ⟨rfl, rfl⟩
    · obtain rfl : e2 = 0 := Classical.not_not.1 g2
      obtain ⟨z1, z2⟩ := hbk _ rfl
      dsimp only at hsx hvx
      rw [z1] at hvx
      rw [z2] at hsx
      refine hvx.call ?_
      conv => whnf
      refine hsx.call ?_
      conv => whnf
      refine ⟨fun _ => ?_, fun h => absurd rfl h⟩
      conv => whnf
      refine (hwk _ hm).mono fun r s1 h1 => ?_
      obtain ⟨rfl, rfl⟩ := h1
      conv => whnf
      exact Fin.same rfl (.refl _) ⟨rfl, rfl⟩
  · obtain ⟨q1, q2⟩ := Prod.mk.inj (hrt hb)
    subst q2
    subst q1
    refine ⟨fun h => absurd rfl h, fun _ => ?_⟩
    conv => whnf
    refine ⟨fun h => absurd ⟨rfl, rfl, rfl, trivial⟩ h, fun _ => ?_⟩
    conv => whnf
    refine (hr2 _ hm).mono fun r s1 h1 => ?_
    obtain ⟨rfl, rfl⟩ := h1
    clear hr2
    have hxn := hx.1
    have hxs := hx.2
    have hsx := vshow_is (readV s).1 hxn hxs
    have hvx := vright_is (readV s).1 (by unfold Big; omega)
    generalize readV s = y2 at hbk hsx hvx ⊢
    obtain ⟨⟨k2, n2, t2⟩, e2⟩ := y2
    conv => whnf
    refine ⟨fun g2 => ?_, fun g2 => ?_⟩ <;> conv => whnf
    · refine (hwk _ hm).mono fun r s1 h1 => ?_
      obtain ⟨rfl, rfl⟩ := h1
      conv => whnf
      exact Fin.same rfl (.refl _) ⟨rfl, rfl⟩
    · obtain rfl : e2 = 0 := Classical.not_not.1 g2
      obtain ⟨z1, z2⟩ := hbk _ rfl
      dsimp only at hsx hvx
      rw [z1] at hvx
      rw [z2] at hsx
      refine hvx.call ?_
      conv => whnf
      refine hsx.call ?_
      conv => whnf
      refine ⟨fun _ => ?_, fun h => absurd rfl h⟩
      conv => whnf
      refine (hwk _ hm).mono fun r s1 h1 => ?_
      obtain ⟨rfl, rfl⟩ := h1
      conv => whnf
      exact Fin.same rfl (.refl _) ⟨rfl, rfl⟩
theorem valueBack_law (x0 : Val) (x1 : ByteArray) (h0 : wfV x0) (h1 : x1.size ≤ maxLen) : ∀ (st : Sto) (id : Nat) (m : Int), MaxL st id m → Does Tryd.prog 3 [.g (eV x0), .c (.v (.string x1))] st fun r s' => r = vB true ∧ s' = st :=
  fun st id m h => back_does x0 x1 (in64_of h0.2.1) h
theorem rv_str {G G' : Gh} {w w' : World} {a : ByteArray} {v : Value} (h : RV G w (.c (.v (.string a))) v) : RV G' w' (.c (.v (.string a))) v := by
  cases h with | c _ _ h => cases h with | v _ hx => exact .c _ _ (.v _ hx)
end Go.Proofs.YtnafgpgbedcdnaaDoor.D

/- The texts of tokens, with a blank between each two, are cut into these again. -/
import Derived.Test.YtckdcaidhpjjaaaStLexBack
import Derived.Test.YtckdcaidhpjjaaaLexAgain
namespace Go.Proofs.Ytckdcaidhpjjaaa.Pure
set_option linter.unusedVariables false
set_option linter.unusedSimpArgs false
open Go Go.RowKit Go.Proofs.Ytckdcaidhpjjaaa.Q Go.Proofs.YtckdcaidhpjjaaaW.PrintWords Go.Proofs.Ytckdcaidhpjjaaa.Aux Go.Proofs.Ytckdcaidhpjjaaa.By Go.Proofs.Ytckdcaidhpjjaaa.Lex Go.Proofs.Ytckdcaidhpjjaaa.Open

theorem rd_b (l : List Tok) (i : Nat) (t : Tok) (h : l[i]? = some t) : rd_T60 (l.map mk) (i : Int) = mk t := by
  simp [rd_T60, List.getD_eq_getElem?_getD, h]
/-- the two lists of tokens tell the same -/
theorem alike (a b : List Tok) (h : b.map pr = a.map pr) (ha : a.length ≤ 1000) : ∀ (m n : Nat), n + m = a.length → Ev (fun k => registrarlaw09_LexBack.l1 k (a.map mk) (b.map mk) n) true
  | m, n, hn => by
    have hlen : b.length = a.length := by
      have := congrArg List.length h
      simpa using this
    refine Ev.step (fun k => registrarlaw09_LexBack.l1.eq_2 ..) ?_
    simp only [List.length_map]
    cases m with
    | zero =>
      refine ev_neg (by omega) ?_
      exact Ev.bind works_f (Ev.now _)
    | succ m =>
      have hlt : n < a.length := by omega
      have hlb : n < b.length := by omega
      rw [rd_b a n a[n] (List.getElem?_eq_getElem hlt), rd_b b n b[n] (List.getElem?_eq_getElem hlb)]
      have hp : pr b[n] = pr a[n] := by
        have := congrArg (fun l => l[n]?) h
        simp only [List.getElem?_map, List.getElem?_eq_getElem hlt, List.getElem?_eq_getElem hlb, Option.map_some, Option.some.injEq] at this
        exact this
      simp only [pr, Prod.mk.injEq] at hp
      refine ev_pos (by omega) ?_
      refine ev_pos (by omega) ?_
      refine ev_pos (by omega) ?_
      refine ev_pos (by simp [mk, hp.1]) ?_
      refine ev_pos (by simp [mk, hp.2]) ?_
      rw [wrap_in (by omega) (by omega)]
      exact alike a b h ha m (n + 1) (by omega)
/-- a token may be -/
theorem right_f (kd : Int) (x : ByteArray) (at_ : Nat) (hs : x.size ≤ 1000) (h0 : B x ≠ []) (h1 : one (B x) = (kd, (B x).length)) : Ev (fun k => lex_Right.f k kd x at_) true := by
  unfold lex_Right.f
  refine ev_neg (by omega) ?_
  refine ev_neg (fun h => h0 ((toList_nil_iff _).1 h)) ?_
  have := one_f x hs h0
  rw [h1] at this
  refine Ev.bind this ?_
  refine ev_pos (by rw [B_size]) ?_
  refine Lex.ev_to (Ev.now _) ?_
  simp
theorem right_end (at_ : Nat) : Ev (fun k => lex_Right.f k 7 (⟨#[]⟩ : ByteArray) at_) true := by
  unfold lex_Right.f
  refine ev_neg (by omega) ?_
  refine ev_pos ((toList_nil_iff _).2 rfl) ?_
  exact Ev.now _
/-- a step of the law's loop: the token may be and stands at its place -/
theorem step_f (x0 x6 : ByteArray) (L : List S60) (n : Nat) (t : S60) (hn : n < L.length) (ht : rd_T60 L (n : Int) = t) (a : Nat) (ha : t.f2 = a) (hx0 : x0.size ≤ 1000) (hr : Ev (fun k => lex_Right.f k t.f0 t.f1 t.f2) true) (h1 : a + t.f1.size ≤ x0.size) (h2 : B (x0.extract a (a + t.f1.size)) = B t.f1) (b : Bool) (hb : ((t.f0 == 7) != ((wrap64 ((n : Int) + 1)) == (L.length : Int))) = b) {r : Bool} (hj : Ev (fun k => registrarlaw09_LexBack.j1 k x0 L x6 n b) r) : Ev (fun k => registrarlaw09_LexBack.l0 k x0 L x6 n) r := by
  refine Ev.step (fun k => registrarlaw09_LexBack.l0.eq_2 ..) ?_
  simp only [ht]
  refine ev_pos (by omega) ?_
  refine ev_pos (by omega) ?_
  refine Ev.bind hr ?_
  refine ev_pos rfl ?_
  simp only [ha]
  refine ev_neg (by omega) ?_
  have hw : wrap64 ((x0.size : Int) - (a : Int)) = ((x0.size - a : Nat) : Int) := by rw [wrap_in (by omega) (by omega)]; omega
  have hw2 : wrap64 ((a : Int) + (t.f1.size : Int)) = ((a + t.f1.size : Nat) : Int) := by rw [wrap_in (by omega) (by omega)]; omega
  simp only [hw, hw2, Int.toNat_natCast]
  refine ev_neg (by omega) ?_
  refine ev_pos (by omega) ?_
  refine ev_pos (by omega) ?_
  refine ev_pos (by omega) ?_
  refine ev_pos (by rw [toList_eq_iff]; exact B_inj h2) ?_
  rw [hb]
  exact hj
/-- the texts are put together: what is cut out of them -/
theorem ending_b (x0 x6 : ByteArray) (i : List Tok) (e : Nat) (hg : ∀ x ∈ i, Lex.Good x) (hc : i.length + 1 ≤ 120) (h6 : B x6 = J (i.map (·.2.1))) (hs : x6.size ≤ 100000) : Ev (fun k => registrarlaw09_LexBack.l0 k x0 ((i ++ [(7, [], e)]).map mk) x6 ((i.length + 1 : Nat) : Int)) true := by
  have hb := B_size x6
  refine Ev.step (fun k => registrarlaw09_LexBack.l0.eq_2 ..) ?_
  have hL : ((i ++ [((7 : Int), ([] : List Int), e)]).map mk).length = i.length + 1 := by simp
  simp only [hL]
  refine ev_neg (by omega) ?_
  refine Ev.bind (tokens_f x6 hs) ?_
  by_cases h : x6.size > 400
  · refine ev_pos (by omega) ?_
    have : all [] (cut (B x6)) = ([], 0, 3) := by
      unfold cut
      rw [if_pos (by omega)]
      rfl
    rw [this]
    refine ev_pos rfl ?_
    exact Ev.bind works_f (Ev.now _)
  · refine ev_neg (by omega) ?_
    have hcut : cut (B x6) = toks ((B x6).length + 1) 120 (B x6) 0 := by
      unfold cut
      rw [if_neg (by omega)]
    rw [hcut, h6]
    have ht := toks_again i ((J (i.map (·.2.1))).length + 1) hg hc (by omega)
    obtain ⟨z, hz⟩ : ∃ z, toks ((J (i.map (·.2.1))).length + 1) 120 (J (i.map (·.2.1))) 0 = z := ⟨_, rfl⟩
    rw [hz] at ht ⊢
    have e1 : all [] z = (z.1.map mk, 0, 0) := by unfold all; rw [if_pos ht.1, List.nil_append]
    rw [e1]
    refine ev_pos rfl ?_
    have hl := congrArg List.length ht.2
    simp only [List.length_map, List.length_append, List.length_cons, List.length_nil] at hl
    refine Ev.step (fun k => registrarlaw09_LexBack.j2.eq_2 ..) ?_
    refine ev_neg (by simp [hl]) ?_
    exact alike (i ++ [(7, [], e)]) z.1 (by rw [ht.2]; simp [pr]) (by simp; omega) (i.length + 1) 0 (by simp)
theorem loop_b (x0 : ByteArray) (h0 : x0.size ≤ 400) (i : List Tok) (e : Nat) (he : e ≤ x0.size) (hg : ∀ x ∈ i, Fit (B x0) x) (hc : i.length + 1 ≤ 120) : ∀ (m n : Nat) (x6 : ByteArray), n + m = i.length → B x6 = J ((i.take n).map (·.2.1)) → Ev (fun k => registrarlaw09_LexBack.l0 k x0 ((i ++ [(7, [], e)]).map mk) x6 n) true := by
  have b0 := B_size x0
  have hk : ∀ x ∈ i, x.2.1.length ≤ 400 := by
    intro x hx
    have := (hg x hx).2.2.1
    omega
  have hsz : ∀ (n : Nat), n ≤ i.length → (J ((i.take n).map (·.2.1))).length ≤ 50000 := by
    intro n hn
    have h1 := J_le ((i.take n).map (·.2.1)) 400 (by
      intro y hy
      rw [List.mem_map] at hy
      obtain ⟨x, hx, rfl⟩ := hy
      exact hk x (List.mem_of_mem_take hx))
    rw [List.length_map, List.length_take] at h1
    have h2 : min n i.length * (400 + 1) ≤ 119 * 401 := Nat.mul_le_mul (by omega) (by omega)
    omega
  have hL : ((i ++ [((7 : Int), ([] : List Int), e)]).map mk).length = i.length + 1 := by simp
  intro m
  induction m with
  | zero =>
    intro n x6 hn h6
    have hn : n = i.length := by omega
    subst hn
    rw [List.take_length] at h6
    have hs6 := hsz i.length (Nat.le_refl _)
    rw [List.take_length, ← h6, B_size] at hs6
    have hrd := rd_b (i ++ [(7, [], e)]) i.length (7, [], e) (by simp)
    have hmk : mk (7, [], e) = (⟨7, (⟨#[]⟩ : ByteArray), (e : Int)⟩ : S60) := rfl
    rw [hmk] at hrd
    refine step_f x0 x6 _ i.length _ (by omega) hrd e rfl (by omega) (right_end e) (by show e + 0 ≤ _; omega) ?_ false ?_ ?_
    · rw [B_extract]
      have : e + (⟨#[]⟩ : ByteArray).size = e := rfl
      simp only [this]
      rw [List.drop_eq_nil_of_le (by simp; omega)]
      rfl
    · rw [hL, wrap_in (by omega) (by omega)]
      simp
    · refine Ev.step (fun k => registrarlaw09_LexBack.j1.eq_2 ..) ?_
      refine ev_neg (by simp) ?_
      have hw : wrap64 ((i.length : Int) + 1) = ((i.length + 1 : Nat) : Int) := by rw [wrap_in (by omega) (by omega)]; omega
      have hfin : Ev (fun k => registrarlaw09_LexBack.l0 k x0 ((i ++ [(7, [], e)]).map mk) (x6 ++ (⟨#[]⟩ : ByteArray)) ((i.length + 1 : Nat) : Int)) true := by
        refine ending_b x0 _ i e (fun x hx => ⟨(hg x hx).1, (hg x hx).2.1⟩) hc ?_ ?_
        · rw [B_append, h6]
          show _ ++ [] = _
          rw [List.append_nil]
        · rw [ByteArray.size_append]
          show x6.size + 0 ≤ _
          omega
      simp only [hrd, hw, hL]
      have hz : (⟨#[]⟩ : ByteArray).size = 0 := rfl
      by_cases hp : (i.length : Int) > 0
      · refine ev_pos hp ?_
        refine ev_neg (by omega) ?_
        refine ev_pos (by omega) ?_
        refine ev_pos (by omega) ?_
        refine ev_pos (by rw [hz]; omega) ?_
        exact hfin
      · refine ev_neg hp ?_
        refine ev_pos (by omega) ?_
        refine ev_pos (by omega) ?_
        refine ev_pos (by rw [hz]; omega) ?_
        exact hfin
  | succ m ih =>
    intro n x6 hn h6
    have hlt : n < i.length := by omega
    have hs6 := hsz n (by omega)
    rw [← h6, B_size] at hs6
    have hf := hg i[n] (List.getElem_mem hlt)
    have hmem := hk i[n] (List.getElem_mem hlt)
    have hrd := rd_b (i ++ [(7, [], e)]) n i[n] (by rw [List.getElem?_append_left hlt, List.getElem?_eq_getElem hlt])
    have htk : i.take (n + 1) = i.take n ++ [i[n]] := by simp
    have hJ : J ((i.take (n + 1)).map (·.2.1)) = if (i.take n).map (·.2.1) = [] then i[n].2.1 else J ((i.take n).map (·.2.1)) ++ 32 :: i[n].2.1 := by
      rw [htk, List.map_append, List.map_cons, List.map_nil, J_append]
    obtain ⟨⟨kd, x, a⟩, hin⟩ : ∃ t, i[n] = t := ⟨_, rfl⟩
    rw [hin] at hf hmem hrd hJ
    obtain ⟨hf1, hf2, hf3, hf4⟩ := hf
    simp only [] at hf1 hf2 hf3 hf4 hmem hJ
    have hBx : B (strOfNums x) = x := by
      refine B_ofNums (fun y hy => B_range x0 y ?_)
      rw [← hf4] at hy
      exact List.mem_of_mem_take (List.mem_of_mem_drop hy)
    have hxs : (strOfNums x).size = x.length := by rw [← B_size, hBx]
    have hkd : kd ≠ 7 := by
      have := one_kind x
      rw [hf2] at this
      exact this
    refine step_f x0 x6 _ n _ (by omega) hrd a rfl (by omega) (right_f kd (strOfNums x) a (by omega) (by rw [hBx]; exact hf1) (by rw [hBx]; exact hf2)) (by show a + (strOfNums x).size ≤ _; omega) ?_ false ?_ ?_
    · show B (x0.extract a (a + (strOfNums x).size)) = B (strOfNums x)
      rw [B_extract, hxs, hBx, hf4]
    · rw [hL, wrap_in (by omega) (by omega)]
      have h1 : ((mk (kd, x, a)).f0 == 7) = false := by simpa [mk] using hkd
      have h2 : ((n : Int) + 1 == ((i.length + 1 : Nat) : Int)) = false := by simp; omega
      rw [h1, h2]
      rfl
    · refine Ev.step (fun k => registrarlaw09_LexBack.j1.eq_2 ..) ?_
      refine ev_neg (by simp) ?_
      have q0 : n < i.length + 1 := by omega
      have q10 : i.length + 1 ≤ 140737488355328 := by omega
      have q1 : ((n + 1 : Nat) : Int) < ((i.length + 1 : Nat) : Int) := by omega
      have q3 : (0 : Int) ≤ (n : Int) := by omega
      have q4 : (n : Int) < ((i.length + 1 : Nat) : Int) := by omega
      have q7 : n + 1 + m = i.length := by omega
      have q8 : ¬ (n : Int) > 0 → n = 0 := by omega
      have q9 : (n : Int) > 0 → (i.take n).map (·.2.1) ≠ [] := by
        intro hp h
        have := congrArg List.length h
        rw [List.length_map, List.length_take, List.length_nil] at this
        omega
      have q256 : x6.size + 1 ≤ 9223372036854775807 ∧ x6.size + 1 + x.length ≤ 9223372036854775807 ∧ x6.size + x.length ≤ 9223372036854775807 := by refine ⟨?_, ?_, ?_⟩ <;> omega
      obtain ⟨q2, q5, q6⟩ := q256
      have hw : wrap64 ((n : Int) + 1) = ((n + 1 : Nat) : Int) := wrap_next q0 q10
      have hf1s : (mk (kd, x, a)).f1.size = x.length := hxs
      have hB1 : B (mk (kd, x, a)).f1 = x := hBx
      simp only [hrd, hw, hL]
      have h32 : (x6 ++ (⟨#[32]⟩ : ByteArray)).size = x6.size + 1 := by rw [ByteArray.size_append]; rfl
      by_cases hp : (n : Int) > 0
      · refine ev_pos hp ?_
        refine ev_pos q1 ?_
        refine ev_pos q2 ?_
        refine ev_pos q3 ?_
        refine ev_pos q4 ?_
        refine ev_pos (by rw [h32, hf1s]; exact q5) ?_
        refine ih (n + 1) _ q7 ?_
        rw [hJ, if_neg (q9 hp), B_append, B_append, hB1, h6]
        show J _ ++ [32] ++ x = _
        rw [List.append_assoc]
        rfl
      · refine ev_neg hp ?_
        refine ev_pos q3 ?_
        refine ev_pos q4 ?_
        refine ev_pos (by rw [hf1s]; exact q6) ?_
        refine ih (n + 1) _ q7 ?_
        have hn0 := q8 hp
        subst hn0
        rw [hJ, if_pos (by simp), B_append, hB1, h6]
        rfl
theorem LexBack : registrarlaw09_LexBack.Pure := by
  intro s _
  refine Ev.rounds (g := fun k => registrarlaw09_LexBack.f k s) ?_
  unfold registrarlaw09_LexBack.f
  have hb := B_size s
  by_cases h : (s.size : Int) > 600
  · refine ev_pos h ?_
    exact Ev.bind works_f (Ev.now _)
  · refine ev_neg h ?_
    refine Ev.bind (tokens_f s (by omega)) ?_
    by_cases h4 : s.size > 400
    · have : all [] (cut (B s)) = ([], 0, 3) := by
        unfold cut
        rw [if_pos (by omega)]
        rfl
      rw [this]
      refine ev_neg (by simp) ?_
      refine ev_pos rfl ?_
      exact Ev.bind works_f (Ev.now _)
    · have hcut : cut (B s) = toks ((B s).length + 1) 120 (B s) 0 := by
        unfold cut
        rw [if_neg (by omega)]
      rw [hcut]
      have ht := toks_fit (B s) ((B s).length + 1) 120 (B s) 0 rfl rfl (by omega)
      obtain ⟨z, hz⟩ : ∃ z, toks ((B s).length + 1) 120 (B s) 0 = z := ⟨_, rfl⟩
      rw [hz] at ht ⊢
      by_cases h0 : z.2.2 = 0
      · obtain ⟨i, e, hi, he, hg, hc⟩ := ht h0
        have e1 : all [] z = ((i ++ [(7, [], e)]).map mk, 0, 0) := by unfold all; rw [if_pos h0, List.nil_append, hi]
        rw [e1]
        refine ev_pos rfl ?_
        exact loop_b s (by omega) i e (by omega) hg hc i.length 0 ⟨#[]⟩ (by omega) rfl
      · have e1 : all [] z = ([], (z.2.1 : Int), z.2.2) := by unfold all; rw [if_neg h0]
        rw [e1]
        refine ev_neg h0 ?_
        refine ev_pos rfl ?_
        exact Ev.bind works_f (Ev.now _)
end Go.Proofs.Ytckdcaidhpjjaaa.Pure

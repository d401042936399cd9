/- Words and contracts: a plain machine over the model, and what the functions that a law reaches come to, each for every input that its theorem names. -/
import Derived.Test.YtbmgenifdlgbmaaGreatK2
import Derived.Test.YtbmgenifdlgbmaaGreatK1
import Derived.Test.YtbmgenifdlgbmaaGreatV2
namespace Go.Proofs.YtbmgenifdlgbmaaGreat.D
set_option linter.unusedVariables false
set_option linter.unusedSimpArgs false
open Go Go.Proofs.YtbmgenifdlgbmaaGreat.D.Pm
set_option maxRecDepth 4000
def hd (l : List (Val × Int)) : Val × Int := l.headD (zV, 0)
mutual
def evalE (row ps : List Val) : Ex → Val × Int
  | .mk k op v nm kids =>
    if k = 1 then (v, 0) else if k = 8 then eone row op else if k = 3 then eone ps (IntKind.i64.wrap (op - 1)) else if k = 4 then eun op (hd (evalEs row ps kids))
    else if k = 5 then (if op ≤ 2 then eboth op (evalEs row ps kids) else ebin op (hd (evalEs row ps kids)) (hd ((evalEs row ps kids).drop 1)))
    else if k = 6 then ein (evalEs row ps kids) else if k = 7 then ecall nm (evalEs row ps kids) else (zV, 4)
def evalEs (row ps : List Val) : List Ex → List (Val × Int)
  | [] => []
  | e :: l => evalE row ps e :: evalEs row ps l
end
theorem evalEs_map {row ps : List Val} : ∀ l, evalEs row ps l = l.map (evalE row ps)
  | [] => rfl
  | e :: l => by rw [evalEs, List.map_cons, evalEs_map l]
mutual
/-- the numbers in it are numbers -/
def inE : Ex → Prop
  | .mk _ _ v _ kids => in64 v.n ∧ inEs kids
def inEs : List Ex → Prop
  | [] => True
  | e :: l => inE e ∧ inEs l
end
theorem inEs_all : ∀ {l}, inEs l → ∀ e ∈ l, inE e
  | a :: l, h, e, he => by
    rcases List.mem_cons.1 he with rfl | he
    · exact h.1
    · exact inEs_all h.2 e he
def okV (v : Val) : Prop := in64 v.n ∧ v.s.size ≤ Big
theorem okz : okV zV := ⟨by unfold in64 zV; decide, Nat.zero_le _⟩
theorem oktv (t : Int) : okV (tval t) := by
  unfold tval
  split
  · rename_i h; exact ⟨by show in64 t; unfold in64; omega, Nat.zero_le _⟩
  · exact okz
theorem okint {n : Int} (h : in64 n) : okV ⟨1, n, ⟨#[]⟩⟩ := ⟨h, Nat.zero_le _⟩
theorem in_res (x : Int) : in64 (res x).1 := by
  by_cases h : in64 x
  · rw [res_in h]; exact h
  · rw [res_out h]; show in64 0; unfold in64; omega
theorem ok_known (t f : Int) : okV (eknown t f).1 := by unfold eknown; split; exact okz; exact oktv t
theorem ok_whole {n : Int} (h : in64 n) (f : Int) : okV (ewhole n f).1 := by unfold ewhole; split; exact okz; exact okint h
theorem in_size {a : Int} (h : in64 a) : in64 (nsize a).1 := by
  unfold nsize
  split
  · exact in_res _
  · exact h
theorem tmod_in {a b : Int} (h : in64 a) : in64 (Int.tmod a b) := by
  have h4 : (Int.tmod a b).natAbs = a.natAbs % b.natAbs := Int.natAbs_tmod a b
  have h5 : a.natAbs % b.natAbs ≤ a.natAbs := Nat.mod_le _ _
  unfold in64 at h ⊢
  have h6 : 0 ≤ a → 0 ≤ Int.tmod a b := fun h => Int.tmod_nonneg b h
  have h8 : a < 0 → Int.tmod a b ≤ 0 := by
    intro h
    have := Int.tmod_nonneg (a := -a) b (by omega)
    rw [Int.neg_tmod] at this
    omega
  omega
theorem in_ints {op a b : Int} (ha : in64 a) : in64 (vints op a b).1 := by
  unfold vints
  have z : in64 0 := by unfold in64; omega
  repeat' split
  · exact in_res _
  · exact in_res _
  · exact in_res _
  · unfold nover; split
    · exact z
    · exact in_res _
  · unfold nrest; repeat' split
    · exact z
    · exact z
    · exact tmod_in ha
theorem ok_math {op : Int} {a b : Val} (ha : okV a) (hb : okV b) : okV (vmath op a b).1 := by
  unfold vmath
  repeat' split
  all_goals first | exact okz | skip
  · rename_i h
    refine ⟨by show in64 0; unfold in64; omega, ?_⟩
    show (a.s ++ b.s).size ≤ Big
    rw [ByteArray.size_append]
    unfold Big
    omega
  · exact okint (in_ints ha.1)
theorem ok_one {l : List Val} (h : ∀ v ∈ l, okV v) (n : Int) : okV (eone l n).1 := by
  unfold eone
  split
  · rename_i v hv
    split
    · exact okz
    · exact h v (List.mem_of_getElem? hv)
  · exact okz
theorem ok_un {op : Int} {p : Val × Int} (h : okV p.1) : okV (eun op p).1 := by
  unfold eun
  repeat' split
  all_goals first | exact okz | exact oktv _ | exact ok_known _ _ | exact ok_whole (in_res _) _
theorem ok_bin {op : Int} {p q : Val × Int} (h : okV p.1) (h' : okV q.1) : okV (ebin op p q).1 := by
  unfold ebin
  repeat' split
  all_goals first | exact okz | exact ok_known _ _ | exact ok_math h h'
theorem ok_both {e : Int} : ∀ (l : List (Val × Int)) (o : Int), okV (ebothL e o l).1
  | [], o => oktv o
  | p :: l, o => by
    rw [ebothL_cons]
    repeat' split
    all_goals first | exact okz | exact oktv _ | exact ok_both l _
theorem ok_inL {x : Val} : ∀ (l : List (Val × Int)) (o : Int), okV (einL x o l).1
  | [], o => oktv o
  | p :: l, o => by
    rw [einL_cons]
    repeat' split
    all_goals first | exact okz | exact oktv _ | exact ok_inL l _
theorem ok_in (l : List (Val × Int)) : okV (ein l).1 := by
  cases l with
  | nil => exact okz
  | cons p l =>
    unfold ein
    dsimp only
    split
    · exact okz
    · exact ok_inL _ _
theorem ok_coal : ∀ {l : List (Val × Int)}, (∀ p ∈ l, okV p.1) → okV (ecoal l).1
  | [], h => okz
  | p :: l, h => by
    unfold ecoal
    split
    · exact h p (List.mem_cons_self ..)
    · exact ok_coal fun q hq => h q (List.mem_cons_of_mem _ hq)
theorem ok_call {nm : ByteArray} {l : List (Val × Int)} (h : ∀ p ∈ l, okV p.1) : okV (ecall nm l).1 := by
  unfold ecall
  split
  · exact ok_coal h
  · cases l with
    | nil => exact okz
    | cons p l =>
      have hp := h p (List.mem_cons_self ..)
      dsimp only
      repeat' split
      all_goals first | exact okz | skip
      · refine ok_whole ?_ _
        have := hp.2
        unfold Big at this
        unfold in64
        omega
      · exact ok_whole (in_size hp.1) _
theorem ok_hd {l : List (Val × Int)} (h : ∀ p ∈ l, okV p.1) : okV (hd l).1 := by
  cases l with
  | nil => exact okz
  | cons p l => exact h p (List.mem_cons_self ..)
theorem eval_ok {row ps : List Val} (hr : ∀ v ∈ row, okV v) (hp : ∀ v ∈ ps, okV v) : ∀ e, okE e → inE e → okV (evalE row ps e).1 := by
  refine Ex.ind fun k op v nm kids ih ho hi => ?_
  have hk : ∀ p ∈ evalEs row ps kids, okV p.1 := fun p hp => by
    rw [evalEs_map] at hp
    obtain ⟨e, he, rfl⟩ := List.mem_map.1 hp
    exact ih e he (okEs_all ho.2.2.2 e he) (inEs_all hi.2 e he)
  unfold evalE
  repeat' split
  · exact ⟨hi.1, Nat.le_of_lt ho.1⟩
  · exact ok_one hr _
  · exact ok_one hp _
  · exact ok_un (ok_hd hk)
  · exact ok_both _ _
  · exact ok_bin (ok_hd hk) (ok_hd fun p hp => hk p (List.mem_of_mem_drop hp))
  · exact ok_in _
  · exact ok_call hk
  · exact okz
theorem eval_is {row ps : List Val} (hr : ∀ v ∈ row, okV v) (hp : ∀ v ∈ ps, okV v) : ∀ e, okE e → inE e → allE (rightE true) e = true → Is Tryz.prog 14 [.g (eEnv row ps), .g (eE e)] (evR (evalE row ps e)) := by
  refine Ex.ind fun k op v nm kids ih ho hi ha => ?_
  rw [allE, Bool.and_eq_true, allEs_all, List.all_eq_true] at ha
  obtain ⟨ha1, ha2⟩ := ha
  have hK : ∀ e ∈ kids, Is Tryz.prog 14 [.g (eEnv row ps), .g (eE e)] (evR (evalE row ps e)) := fun e he => ih e he (okEs_all ho.2.2.2 e he) (inEs_all hi.2 e he) (ha2 e he)
  have hV : ∀ e ∈ kids, okV (evalE row ps e).1 := fun e he => eval_ok hr hp e (okEs_all ho.2.2.2 e he) (inEs_all hi.2 e he)
  have hb : kids.length ≤ Big := ho.2.2.1
  have hU : k = 4 → Is Tryz.prog 24 [.g (eEnv row ps), .g (eE (.mk k op v nm kids))] (evR (eun op (hd (evalEs row ps kids)))) := fun e => by
    subst e
    have hl : kids.length = 1 := by simp [rightE] at ha1; exact ha1.1
    match kids, hl with
    | [kid], _ => exact un_is row ps 4 op v nm kid _ (hK kid (by simp)) (hV kid (by simp)).1
  have hB : k = 5 → Is Tryz.prog 25 [.g (eEnv row ps), .g (eE (.mk k op v nm kids))] (evR (if op ≤ 2 then eboth op (evalEs row ps kids) else ebin op (hd (evalEs row ps kids)) (hd ((evalEs row ps kids).drop 1)))) := fun e => by
    subst e
    have hl : kids.length = 2 := by simp [rightE] at ha1; exact ha1.1
    have hbo := both_is row ps 5 op v nm kids _ hb hK
    rw [← evalEs_map] at hbo
    match kids, hl with
    | [k1, k2], _ => exact bin_is row ps 5 op v nm k1 k2 _ _ _ (hK k1 (by simp)) (hK k2 (by simp)) hbo (hV k1 (by simp)) (hV k2 (by simp))
  have hN : k = 6 → Is Tryz.prog 26 [.g (eEnv row ps), .g (eE (.mk k op v nm kids))] (evR (ein (evalEs row ps kids))) := fun e => by
    subst e
    have hl : 2 ≤ kids.length := by simp [rightE] at ha1; exact ha1.1
    rw [evalEs_map]
    match kids, hl with
    | kid :: kids, _ => exact in_is row ps 6 op v nm kid kids _ hb hK
  have hC : k = 7 → Is Tryz.prog 27 [.g (eEnv row ps), .g (eE (.mk k op v nm kids))] (evR (ecall nm (evalEs row ps kids))) := fun e => by
    subst e
    have hl : kids ≠ [] := fun h => by subst h; simp [rightE, callOk] at ha1
    rw [evalEs_map]
    match kids, hl with
    | kid :: kids, _ => exact call_is2 row ps 7 op v nm kid kids _ hb hK (hV kid (by simp)).1
    | [], h => exact absurd rfl h
  clear ih hK hV ha1 ha2 hb
  refine Is.of TP Tryz.func14 rfl rfl (Nat.le_of_ble_eq_true rfl) fun st => Pw.of TP [] ?_
  conv => whnf
  intro id hid
  conv => whnf
  repeat' (first | (refine ⟨fun h => ?_, fun h => ?_⟩ <;> conv => whnf) | (apply Exists.intro; apply And.intro; (first | ((with_reducible (repeat (refine Eq.trans (upd_ne _ ?_) ?_; (first | assumption | (apply Ne.symm; assumption))))); first | exact upd_same _ _ _ | assumption) | ((repeat (refine Eq.trans (upd_ne _ ?_) ?_; (first | assumption | (apply Ne.symm; assumption)))); first | exact upd_same _ _ _ | assumption)); refine ⟨Nat.le_of_ble_eq_true rfl, ?_⟩; conv => whnf) | (apply Exists.intro; apply And.intro; (first | ((with_reducible (repeat (refine Eq.trans (upd_ne _ ?_) ?_; (first | assumption | (apply Ne.symm; assumption))))); first | exact upd_same _ _ _ | assumption) | ((repeat (refine Eq.trans (upd_ne _ ?_) ?_; (first | assumption | (apply Ne.symm; assumption)))); first | exact upd_same _ _ _ | assumption)); conv => whnf) | (refine Is.callV (eone_is _ _) fun y m hym => ?_; conv => whnf) | (refine Is.callV (hU ?_) fun y m hym => ?_; assumption; conv => whnf) | (refine Is.callV (hB ?_) fun y m hym => ?_; assumption; conv => whnf) | (refine Is.callV (hN ?_) fun y m hym => ?_; assumption; conv => whnf) | (refine Is.callV (hC ?_) fun y m hym => ?_; assumption; conv => whnf))
  all_goals first | refine Fin.ev (v := zV) rfl ?_ (by (first | (with_reducible (iterate 24 (try any_goals (first | exact Le.refl _ | assumption | apply Le.up2))); done) | (iterate 24 (try any_goals (first | exact Le.refl _ | assumption | apply Le.up2))))) | refine Fin.ev (v := v) rfl ?_ (by (first | (with_reducible (iterate 24 (try any_goals (first | exact Le.refl _ | assumption | apply Le.up2))); done) | (iterate 24 (try any_goals (first | exact Le.refl _ | assumption | apply Le.up2))))) | refine Fin.ev (v := y) rfl ?_ (by (first | (with_reducible (iterate 24 (try any_goals (first | exact Le.refl _ | assumption | apply Le.up2))); done) | (iterate 24 (try any_goals (first | exact Le.refl _ | assumption | apply Le.up2)))))
  all_goals clear hU hB hN hC ho hi hr hp
  all_goals rw [evalE]
  all_goals simp_all
end Go.Proofs.YtbmgenifdlgbmaaGreat.D
namespace Go.Proofs.YtbmgenifdlgbmaaGreat.D
set_option linter.unusedVariables false
set_option linter.unusedSimpArgs false
open Go Go.Proofs.YtbmgenifdlgbmaaGreat.D.Pm
set_option maxRecDepth 4000
deriving instance DecidableEq for Val
def evalTop (row ps : List Val) (e : Ex) : Val × Int := if checkE true e ≠ 0 then (zV, (checkE true e : Nat)) else evalE row ps e
theorem Eval_is {row ps : List Val} (hr : ∀ v ∈ row, okV v) (hp : ∀ v ∈ ps, okV v) (e : Ex) (ho : okE e) (hi : inE e) : Is Tryz.prog 7 [.g (eE e), .c (.sl 3 (row.map eV)), .c (.sl 3 (ps.map eV))] (evR (evalTop row ps e)) := by
  have h1 := check_is e ho true
  have h2 := eval_is hr hp e ho hi
  have h3 : checkE true e = 0 → allE (rightE true) e = true := fun h => by
    unfold checkE at h
    split at h
    · cases h
    · split at h
      · assumption
      · cases h
  unfold evalTop
  generalize hc : checkE true e = c at h1 h3
  cases e
  refine Is.of TP Tryz.func7 rfl rfl (Nat.le_of_ble_eq_true rfl) fun st => Pw.of TP [] ?_
  conv => whnf
  intro id hid
  conv => whnf
  refine Is.callI h1 fun c' hc' => ?_
  subst hc'
  conv => whnf
  refine ⟨fun h => ?_, fun h => ?_⟩ <;> conv => whnf
  · repeat' (first | (apply Exists.intro; apply And.intro; (first | ((with_reducible (repeat (refine Eq.trans (upd_ne _ ?_) ?_; (first | assumption | (apply Ne.symm; assumption))))); first | exact upd_same _ _ _ | assumption) | ((repeat (refine Eq.trans (upd_ne _ ?_) ?_; (first | assumption | (apply Ne.symm; assumption)))); first | exact upd_same _ _ _ | assumption)); refine ⟨Nat.le_of_ble_eq_true rfl, ?_⟩; conv => whnf) | (apply Exists.intro; apply And.intro; (first | ((with_reducible (repeat (refine Eq.trans (upd_ne _ ?_) ?_; (first | assumption | (apply Ne.symm; assumption))))); first | exact upd_same _ _ _ | assumption) | ((repeat (refine Eq.trans (upd_ne _ ?_) ?_; (first | assumption | (apply Ne.symm; assumption)))); first | exact upd_same _ _ _ | assumption)); conv => whnf))
    refine Fin.ev (v := zV) rfl ?_ (by (first | (with_reducible (iterate 24 (try any_goals (first | exact Le.refl _ | assumption | apply Le.up2))); done) | (iterate 24 (try any_goals (first | exact Le.refl _ | assumption | apply Le.up2)))))
    rw [if_pos (by omega)]
  · have hc0 : c = 0 := by omega
    refine Is.callV (h2 (h3 hc0)) fun y m hym => ?_
    conv => whnf
    repeat' (first | (apply Exists.intro; apply And.intro; (first | ((with_reducible (repeat (refine Eq.trans (upd_ne _ ?_) ?_; (first | assumption | (apply Ne.symm; assumption))))); first | exact upd_same _ _ _ | assumption) | ((repeat (refine Eq.trans (upd_ne _ ?_) ?_; (first | assumption | (apply Ne.symm; assumption)))); first | exact upd_same _ _ _ | assumption)); refine ⟨Nat.le_of_ble_eq_true rfl, ?_⟩; conv => whnf) | (apply Exists.intro; apply And.intro; (first | ((with_reducible (repeat (refine Eq.trans (upd_ne _ ?_) ?_; (first | assumption | (apply Ne.symm; assumption))))); first | exact upd_same _ _ _ | assumption) | ((repeat (refine Eq.trans (upd_ne _ ?_) ?_; (first | assumption | (apply Ne.symm; assumption)))); first | exact upd_same _ _ _ | assumption)); conv => whnf))
    refine Fin.ev (v := y) rfl ?_ (by (first | (with_reducible (iterate 24 (try any_goals (first | exact Le.refl _ | assumption | apply Le.up2))); done) | (iterate 24 (try any_goals (first | exact Le.refl _ | assumption | apply Le.up2)))))
    rw [if_neg (by omega), hym]
def lit1 (n : Int) : Ex := .mk 1 0 ⟨1, n, ⟨#[]⟩⟩ ⟨#[]⟩ []
theorem works1_is (n : Int) : Is Tryz.prog 12 [vI .i64 n] (.g (eE (lit1 n))) := by
  refine Is.of TP Tryz.func12 rfl rfl (Nat.le_of_ble_eq_true rfl) fun st => Pw.of TP [] ?_
  conv => whnf
  intro id hid
  conv => whnf
  repeat' (first | (apply Exists.intro; apply And.intro; (first | ((with_reducible (repeat (refine Eq.trans (upd_ne _ ?_) ?_; (first | assumption | (apply Ne.symm; assumption))))); first | exact upd_same _ _ _ | assumption) | ((repeat (refine Eq.trans (upd_ne _ ?_) ?_; (first | assumption | (apply Ne.symm; assumption)))); first | exact upd_same _ _ _ | assumption)); refine ⟨Nat.le_of_ble_eq_true rfl, ?_⟩; conv => whnf) | (apply Exists.intro; apply And.intro; (first | ((with_reducible (repeat (refine Eq.trans (upd_ne _ ?_) ?_; (first | assumption | (apply Ne.symm; assumption))))); first | exact upd_same _ _ _ | assumption) | ((repeat (refine Eq.trans (upd_ne _ ?_) ?_; (first | assumption | (apply Ne.symm; assumption)))); first | exact upd_same _ _ _ | assumption)); conv => whnf))
  refine ⟨fun _ => false, st, .g (eE (lit1 n)), FV.gl (.cons (.refl _) (.cons (.refl _) (.cons (.refl _) (.cons (.refl _) (.cons (.refl _) (.cons (.refl _) (.cons (.nil 7) .nil))))))), fun i o ho => ⟨(by (first | (with_reducible (iterate 24 (try any_goals (first | exact Le.refl _ | assumption | apply Le.up2))); done) | (iterate 24 (try any_goals (first | exact Le.refl _ | assumption | apply Le.up2)))) : Le st _) i o ho, rfl⟩, rfl, rfl⟩
def half : Ex := .mk 5 3 zV ⟨#[]⟩ [.mk 5 12 zV ⟨#[]⟩ [lit1 1, lit1 0], lit1 1]
def whole : Ex := .mk 5 2 zV ⟨#[]⟩ [.mk 1 0 ⟨2, 0, ⟨#[]⟩⟩ ⟨#[]⟩ [], half]
theorem okhalf : okE half ∧ inE half ∧ okE whole ∧ inE whole := by
  refine ⟨?_, ?_, ?_, ?_⟩ <;> simp [half, whole, lit1, okE, okEs, inE, inEs, in64, zV, Big] <;> decide
theorem evhalf : evalTop [] [] half = (zV, 10) := by decide +kernel
theorem evwhole : evalTop [] [] whole = (⟨2, 0, ⟨#[]⟩⟩, 0) := by decide +kernel
theorem works_is : Is Tryz.prog 6 [] (vB true) := by
  refine Is.of TP Tryz.func6 rfl rfl (Nat.le_of_ble_eq_true rfl) fun st => Pw.of TP [] ?_
  conv => whnf
  refine (works1_is 1).call ?_
  conv => whnf
  refine (works1_is 0).call ?_
  conv => whnf
  refine (works1_is 1).call ?_
  conv => whnf
  have c1 := Eval_is (row := []) (ps := []) (by simp) (by simp) whole okhalf.2.2.1 okhalf.2.2.2
  have c2 := Eval_is (row := []) (ps := []) (by simp) (by simp) half okhalf.1 okhalf.2.1
  rw [evwhole] at c1
  rw [evhalf] at c2
  refine Does.args (as' := [.g (eE whole), .c (.sl 3 []), .c (.sl 3 [])]) rfl (fun j r r' h1 h2 => ?_) (c1.call ?_)
  · match j, h1, h2 with
    | 0, h1, h2 =>
      cases h1; cases h2
      refine FV.gl (.cons (.refl _) (.cons (.refl _) (.cons (.refl _) (.cons (.refl _) (.cons (.refl _) (.cons (.refl _) (.cons (Fz.sl2 ?_ ?_) .nil)))))))
      · exact .cons (.cons (.refl _) (.cons (.refl _) (.cons (.refl _) (.cons (.refl _) (.cons (.refl _) (.cons (.refl _) (.cons (.nil 7) .nil))))))) (.cons (F2.same _) .nil)
      · intro r hr
        rcases List.mem_cons.1 hr with rfl | hr
        · rfl
        · rcases List.mem_cons.1 hr with rfl | hr
          · rfl
          · cases hr
    | 1, h1, h2 => cases h1; cases h2; exact .c _ _ (.nil 3)
    | 2, h1, h2 => cases h1; cases h2; exact .c _ _ (.nil 3)
    | j + 3, h1, h2 => simp at h2
  conv => whnf
  refine Does.args (as' := [.g (eE half), .c (.sl 3 []), .c (.sl 3 [])]) rfl (fun j r r' h1 h2 => ?_) (c2.call ?_)
  · match j, h1, h2 with
    | 0, h1, h2 => cases h1; cases h2; exact .refl _
    | 1, h1, h2 => cases h1; cases h2; exact .c _ _ (.nil 3)
    | 2, h1, h2 => cases h1; cases h2; exact .c _ _ (.nil 3)
    | j + 3, h1, h2 => simp at h2
  conv => whnf
  repeat' (first | ((refine ⟨fun h => ?_, fun h => ?_⟩) <;> conv => whnf) | fail)
  all_goals first | exact Fin.old rfl (.refl _) | (exfalso; apply h; exact ⟨rfl, rfl, rfl, trivial⟩) | (exfalso; apply h; rfl)
end Go.Proofs.YtbmgenifdlgbmaaGreat.D

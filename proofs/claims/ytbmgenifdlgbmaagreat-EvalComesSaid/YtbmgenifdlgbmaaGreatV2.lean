/- Words and contracts: a plain machine over the model, and what the functions that a law reaches come to, each for every input that its theorem names. -/
import Derived.Test.YtbmgenifdlgbmaaGreatV1
import Derived.ChangeArms
import Derived.Carry
import Derived.RangeFuncIn
import Derived.RangeFuncRecord
namespace Go.Proofs.YtbmgenifdlgbmaaGreat.D.Pm
set_option linter.unusedVariables false
set_option linter.unusedSimpArgs false
open Go
/-! ### draws with a chain of changes: the operations of Bs stand in one order, the others hang on none of them and on no memory that changes -/
section
variable (N : Nat) (ops : Array Oper) (env0 : Env)
def envR (rs : Nat → Option AV) : Nat → Env
  | 0 => env0
  | k + 1 => match ops[k]?, rs k with
    | some o, some r => put N (envR rs k) o.dst r
    | _, _ => envR rs k
def updR (rs : Nat → Option AV) (i : Nat) (r : AV) : Nat → Option AV := fun k => if k = i then some r else rs k
end
variable {P : Program} {T : TT} {N : Nat} {ops : Array Oper} {env0 : Env} {rs rs' : Nat → Option AV}
theorem envR_congr : ∀ (k : Nat), (∀ j, j < k → rs j = rs' j) → envR N ops env0 rs k = envR N ops env0 rs' k
  | 0, _ => rfl
  | k + 1, h => by
    unfold envR
    rw [h k (Nat.lt_succ_self _), envR_congr k (fun j hj => h j (by omega))]
theorem look_envR {t : Tmp} : ∀ (k : Nat), (∀ j, j < k → (ops[j]?).bind (·.dst) = some t → rs j = rs' j) → look (envR N ops env0 rs k) t = look (envR N ops env0 rs' k) t
  | 0, _ => rfl
  | k + 1, h => by
    have ih := look_envR (t := t) k (fun j hj => h j (by omega))
    unfold envR
    cases ho : ops[k]? with
    | none => exact ih
    | some o =>
      by_cases hd : o.dst = some t
      · rw [h k (Nat.lt_succ_self _) (by rw [ho]; exact hd)]
        cases rs' k with
        | none => exact ih
        | some r => exact look_put_congr ih
      · cases rs k <;> cases rs' k <;> simp only [look_put hd, ih]
theorem envR_le {t : Tmp} {k n : Nat} (hk : k ≤ n) (h : ∀ j, k ≤ j → j < n → (ops[j]?).bind (·.dst) = some t → rs j = none) : look (envR N ops env0 rs n) t = look (envR N ops env0 rs k) t := by
  induction n with
  | zero =>
    have hk0 : k = 0 := by omega
    subst hk0; rfl
  | succ n ih =>
    by_cases hkn : k = n + 1
    · subst hkn; rfl
    · have := ih (by omega) (fun j h1 h2 => h j h1 (by omega))
      rw [← this]
      conv => lhs; unfold envR
      cases ho : ops[n]? with
      | none => rfl
      | some o =>
        by_cases hd : o.dst = some t
        · rw [h n (by omega) (Nat.lt_succ_self _) (by rw [ho]; exact hd)]
        · cases rs n with
          | none => rfl
          | some r => exact look_put hd
theorem envR_upd {i : Nat} {o : Oper} {r : AV} (ho : ops[i]? = some o) (hn : rs i = none) (hu : ∀ d, o.dst = some d → ∀ j, (ops[j]?).bind (·.dst) = some d → j = i) {n : Nat} (hi : i < n) (t : Tmp) :
    look (envR N ops env0 (updR rs i r) n) t = look (put N (envR N ops env0 rs n) o.dst r) t := by
  by_cases hd : o.dst = some t
  · have e1 : look (envR N ops env0 (updR rs i r) n) t = look (envR N ops env0 (updR rs i r) (i + 1)) t := by
      have h1 : look (envR N ops env0 (updR rs i r) n) t = look (envR N ops env0 (fun k => if k ≤ i then updR rs i r k else none) n) t :=
        look_envR n (fun j hj hjd => by rw [hu t hd j hjd]; simp)
      rw [h1, envR_le (k := i + 1) (by omega) (fun j h2 _ _ => by simp; omega)]
      exact congrArg (look · t) (envR_congr (i + 1) (fun j hj => by simp; omega))
    have e2 : envR N ops env0 (updR rs i r) (i + 1) = put N (envR N ops env0 (updR rs i r) i) o.dst r := by
      conv => lhs; unfold envR
      rw [ho]
      simp [updR]
    have e3 : envR N ops env0 (updR rs i r) i = envR N ops env0 rs i := envR_congr i (fun j hj => by unfold updR; rw [if_neg (by omega)])
    have e4 : look (envR N ops env0 rs n) t = look (envR N ops env0 rs i) t := envR_le (by omega) (fun j h1 h2 hj => by rw [hu t hd j hj]; exact hn)
    rw [e1, e2, e3, hd, look_put_same, look_put_same, e4]
  · rw [look_put hd]
    exact look_envR n (fun j hj hjd => by
      unfold updR
      rw [if_neg (fun e => by subst e; rw [ho] at hjd; exact hd hjd)])
def drawOkC (ops : Array Oper) (M : List (List Nat)) (Bs : List Nat) : Bool :=
  ancOk ops M && (List.range ops.size).all fun i => match ops[i]? with
    | some o => (match o.dst with | some d => dsts ops d == [i] | none => true) && (((o.looksAt ops).all fun t => (dsts ops t).all fun j => (M.getD i []).contains j) &&
      (if Bs.contains i then o.guard.isNone && Bs.all (fun j => decide (i ≤ j) || (M.getD i []).contains j) else (M.getD i []).all fun j => !Bs.contains j))
    | none => true
theorem drawOkC_parts {M : List (List Nat)} {Bs : List Nat} (h : drawOkC ops M Bs = true) : ancOk ops M = true ∧ ∀ i o, ops[i]? = some o → (∀ d, o.dst = some d → ∀ j, (ops[j]?).bind (·.dst) = some d → j = i) ∧
    (∀ t ∈ o.looksAt ops, ∀ j, (ops[j]?).bind (·.dst) = some t → j ∈ M.getD i []) ∧ (Bs.contains i = true → o.guard = none ∧ ∀ j, Bs.contains j = true → j < i → j ∈ M.getD i []) ∧ (Bs.contains i = false → ∀ j ∈ M.getD i [], Bs.contains j = false) := by
  unfold drawOkC at h
  rw [Bool.and_eq_true] at h
  refine ⟨h.1, fun i o ho => ?_⟩
  have hi : i < ops.size := (Array.getElem?_eq_some_iff.1 ho).1
  have h2 := List.all_eq_true.1 h.2 i (List.mem_range.2 hi)
  rw [ho] at h2
  dsimp only at h2
  rw [Bool.and_eq_true, Bool.and_eq_true] at h2
  have mem : ∀ t j, (ops[j]?).bind (·.dst) = some t → j ∈ dsts ops t := fun t j hj => by
    have hlt : j < ops.size := by
      cases hq : ops[j]? with
      | none => rw [hq] at hj; cases hj
      | some q => exact (Array.getElem?_eq_some_iff.1 hq).1
    exact List.mem_filter.2 ⟨List.mem_range.2 hlt, by rw [hj]; simp⟩
  refine ⟨fun d hd j hj => ?_, fun t ht j hj => ?_, fun hb => ?_, fun hb j hj => ?_⟩
  · have h3 := h2.1
    rw [hd] at h3
    have h4 : dsts ops d = [i] := by simpa using h3
    have := mem d j hj
    rw [h4] at this
    simpa using this
  · have h3 := List.all_eq_true.1 h2.2.1 t ht
    have h4 := List.all_eq_true.1 h3 j (mem t j hj)
    rwa [List.contains_iff_mem] at h4
  · have h3 := h2.2.2
    rw [if_pos hb, Bool.and_eq_true] at h3
    refine ⟨by simpa using h3.1, fun j hj hlt => ?_⟩
    have h4 := List.all_eq_true.1 h3.2 j (List.contains_iff_mem.1 hj)
    simp only [Bool.or_eq_true, decide_eq_true_eq] at h4
    rcases h4 with h4 | h4
    · omega
    · exact List.contains_iff_mem.1 h4
  · have h3 := h2.2.2
    rw [if_neg (by rw [hb]; simp)] at h3
    have h4 := List.all_eq_true.1 h3 j hj
    simpa using h4
section
variable (P : Program) (T : TT) (N : Nat) (ops : Array Oper) (Bs : List Nat) (Mq : List Nat) (st0 : Sto) (qs : Option Nat)
/-- the memory that an operation may read -/
def rdst (i : Nat) : Sto := match Mq.elem i with
  | true => st0
  | false => fun _ => none
def vdA : Nat → List Oper → Env → (Env → Prop) → Prop
  | _, [], env, F => F env
  | i, o :: l, env, F => match Bs.elem i with
    | true => vdA (i + 1) l env F
    | false => match o.guard with
      | none => vone P T (rdst Mq st0 i) env o.op fun r => vdA (i + 1) l (put N env o.dst r) F
      | some (j, want) => onO ((ops[j]?).bind (·.dst)) fun d => onO (look env d) fun r => onG r (vdA (i + 1) l (put N env o.dst (.t [])) F) fun b =>
          if b = want then vone P T (rdst Mq st0 i) env o.op fun r => vdA (i + 1) l (put N env o.dst r) F else vdA (i + 1) l (put N env o.dst (.t [])) F
def vdB : Nat → List Oper → Env → Sto → (Env → Sto → Prop) → Prop
  | _, [], env, st, Q => Q env st
  | i, o :: l, env, st, Q => match Bs.elem i with
    | true => (match qs with
      | none => vop P T env st o.op fun r st => vdB (i + 1) l (put N env o.dst r) st Q
      | some q => (match Nat.ble i q with
        | true => Le st0 st ∧ vop P T env st o.op fun r st => vdB (i + 1) l (put N env o.dst r) st Q
        | false => vop P T env st o.op fun r st => vdB (i + 1) l (put N env o.dst r) st Q))
    | false => vdB (i + 1) l env st Q
def FactA (env0 : Env) (rs : Nat → Option AV) (k : Nat) : Prop :=
  ∃ o r, ops[k]? = some o ∧ rs k = some r ∧
    ((∃ j want d r', o.guard = some (j, want) ∧ (ops[j]?).bind (·.dst) = some d ∧ look (envR N ops env0 rs k) d = some r' ∧ notIs r' want ∧ r = .t []) ∨
     ((o.guard = none ∨ ∃ j want d, o.guard = some (j, want) ∧ (ops[j]?).bind (·.dst) = some d ∧ look (envR N ops env0 rs k) d = some (.c (.v (.bool want)))) ∧
      ∀ st', Le (rdst Mq st0 k) st' → vop P T (envR N ops env0 rs k) st' o.op fun r' s => r' = r ∧ s = st'))
end
variable {Bs : List Nat} {Mq : List Nat} {st0 : Sto} {qs : Option Nat}
theorem FactA.congr {k : Nat} (h : ∀ j, j ≤ k → rs j = rs' j) (hf : FactA P T N ops Mq st0 env0 rs k) : FactA P T N ops Mq st0 env0 rs' k := by
  unfold FactA at hf ⊢
  rw [envR_congr k (rs' := rs') (fun j hj => h j (by omega)), h k (Nat.le_refl _)] at hf
  exact hf
theorem planA {F : Env → Prop} : ∀ (l : List Oper) (i : Nat) (rs : Nat → Option AV), ops.toList.drop i = l → i ≤ ops.size → (∀ k, i ≤ k → rs k = none) → (∀ k, k < i → Bs.elem k = false → FactA P T N ops Mq st0 env0 rs k) → (∀ k, Bs.elem k = true → rs k = none) →
    vdA P T N ops Bs Mq st0 i l (envR N ops env0 rs i) F → ∃ rs', (∀ k, k < ops.size → Bs.elem k = false → FactA P T N ops Mq st0 env0 rs' k) ∧ (∀ k, Bs.elem k = true → rs' k = none) ∧ F (envR N ops env0 rs' ops.size)
  | [], i, rs, hd, hi, h0, hf, hb, h => by
    have hn : ops.size ≤ i := by
      have := congrArg List.length hd
      simp at this; omega
    have he : i = ops.size := by omega
    subst he
    exact ⟨rs, hf, hb, h⟩
  | o :: l, i, rs, hd, hi, h0, hf, hb, h => by
    have ho : ops[i]? = some o := by
      have := congrArg (·[0]?) hd
      simpa [List.getElem?_drop] using this
    have hd' : ops.toList.drop (i + 1) = l := by rw [← List.drop_drop, hd]; rfl
    have hi' : i < ops.size := (Array.getElem?_eq_some_iff.1 ho).1
    unfold vdA at h
    cases hbi : Bs.elem i with
    | true =>
      rw [hbi] at h
      have e : envR N ops env0 rs (i + 1) = envR N ops env0 rs i := by
        conv => lhs; unfold envR
        rw [ho, h0 i (Nat.le_refl _)]
      refine planA l (i + 1) rs hd' hi' (fun k hk => h0 k (by omega)) (fun k hk hkb => ?_) hb (by rw [e]; exact h)
      by_cases hki : k = i
      · subst hki; rw [hbi] at hkb; cases hkb
      · exact hf k (by omega) hkb
    | false =>
      rw [hbi] at h
      dsimp only at h
      have step : ∀ r, FactA P T N ops Mq st0 env0 (updR rs i r) i → vdA P T N ops Bs Mq st0 (i + 1) l (put N (envR N ops env0 rs i) o.dst r) F →
          ∃ rs', (∀ k, k < ops.size → Bs.elem k = false → FactA P T N ops Mq st0 env0 rs' k) ∧ (∀ k, Bs.elem k = true → rs' k = none) ∧ F (envR N ops env0 rs' ops.size) := by
        intro r hfr hv
        have e : envR N ops env0 (updR rs i r) (i + 1) = put N (envR N ops env0 rs i) o.dst r := by
          conv => lhs; unfold envR
          rw [ho]
          rw [show updR rs i r i = some r from by simp [updR], envR_congr i (rs' := rs) (fun j hj => by unfold updR; rw [if_neg (by omega)])]
        refine planA l (i + 1) (updR rs i r) hd' hi' (fun k hk => by unfold updR; rw [if_neg (by omega)]; exact h0 k (by omega)) (fun k hk hkb => ?_) (fun k hkb => ?_) (by rw [e]; exact hv)
        · by_cases hki : k = i
          · subst hki; exact hfr
          · exact (hf k (by omega) hkb).congr (fun j hj => by unfold updR; rw [if_neg (by omega)])
        · unfold updR
          rw [if_neg (fun e => by subst e; rw [hbi] at hkb; cases hkb)]
          exact hb k hkb
      have hek : ∀ r, envR N ops env0 (updR rs i r) i = envR N ops env0 rs i := fun r => envR_congr i (fun j hj => by unfold updR; rw [if_neg (by omega)])
      have hri : ∀ r, updR rs i r i = some r := fun r => by simp [updR]
      have run : (o.guard = none ∨ ∃ j want d, o.guard = some (j, want) ∧ (ops[j]?).bind (·.dst) = some d ∧ look (envR N ops env0 rs i) d = some (.c (.v (.bool want)))) →
          vone P T (rdst Mq st0 i) (envR N ops env0 rs i) o.op (fun r => vdA P T N ops Bs Mq st0 (i + 1) l (put N (envR N ops env0 rs i) o.dst r) F) →
          ∃ rs', (∀ k, k < ops.size → Bs.elem k = false → FactA P T N ops Mq st0 env0 rs' k) ∧ (∀ k, Bs.elem k = true → rs' k = none) ∧ F (envR N ops env0 rs' ops.size) := by
        intro hg hr
        obtain ⟨r, h1, h2⟩ := vone_det hr
        refine step r ⟨o, r, ho, hri r, .inr ⟨?_, fun st' hle => ?_⟩⟩ h1
        · rw [hek]; exact hg
        · rw [hek]; exact h2 st' hle
      cases hgd : o.guard with
      | none =>
        rw [hgd] at h
        exact run (.inl hgd) h
      | some jw =>
        obtain ⟨j, want⟩ := jw
        rw [hgd] at h
        dsimp only at h
        obtain ⟨d, h1, hh1⟩ := onO_iff.1 h
        obtain ⟨r, h2, hh2⟩ := onO_iff.1 hh1
        rcases onG_ok hh2 with ⟨⟨l', rfl⟩, hh⟩ | ⟨b, rfl, hh⟩
        · exact step (.t []) ⟨o, _, ho, hri _, .inl ⟨j, want, d, _, hgd, h1, by rw [hek]; exact h2, .inr ⟨l', rfl⟩, rfl⟩⟩ hh
        · by_cases hbw : b = want
          · rw [if_pos hbw] at hh
            exact run (.inr ⟨j, want, d, hgd, h1, hbw ▸ h2⟩) hh
          · rw [if_neg hbw] at hh
            exact step (.t []) ⟨o, _, ho, hri _, .inl ⟨j, want, d, _, hgd, h1, by rw [hek]; exact h2, .inl ⟨b, rfl, hbw⟩, rfl⟩⟩ hh
theorem vdB_skip {Q : Env → Sto → Prop} {env : Env} {st : Sto} {p : Nat} : ∀ (m : Nat), (∀ j, p ≤ j → j < p + m → Bs.elem j = false) → p + m ≤ ops.size → vdB P T N Bs st0 qs p (ops.toList.drop p) env st Q → vdB P T N Bs st0 qs (p + m) (ops.toList.drop (p + m)) env st Q
  | 0, _, _, h => h
  | m + 1, hb, hm, h => by
    have h1 := vdB_skip m (fun j h1 h2 => hb j h1 (by omega)) (by omega) h
    have hlt : p + m < ops.toList.length := by rw [Array.length_toList]; omega
    rw [List.drop_eq_getElem_cons hlt] at h1
    unfold vdB at h1
    rw [hb (p + m) (by omega) (by omega)] at h1
    exact h1
theorem vdB_le {Q : Env → Sto → Prop} {q : Nat} (hq : Bs.elem q = true) (hlt : q < ops.size) : ∀ (m : Nat) {p : Nat} {env : Env} {st : Sto}, p + m = q → vdB P T N Bs st0 (some q) p (ops.toList.drop p) env st Q → Le st0 st
  | m, p, env, st, hm, h => by
    have hl : p < ops.toList.length := by rw [Array.length_toList]; omega
    rw [List.drop_eq_getElem_cons hl] at h
    unfold vdB at h
    cases hb : Bs.elem p with
    | true =>
      rw [hb] at h
      have hble : Nat.ble p q = true := Nat.ble_eq_true_of_le (by omega)
      dsimp only at h
      rw [hble] at h
      exact h.1
    | false =>
      rw [hb] at h
      match m, hm with
      | 0, hm => have : p = q := by omega
                 subst this; rw [hb] at hq; cases hq
      | m + 1, hm => exact vdB_le hq hlt m (by omega) h
theorem drawC_any {ρ : Option Nat} (TP : TOk P T) {M : List (List Nat)} (hok : drawOkC ops M Bs = true) (hf : ∀ k, k < ops.size → Bs.elem k = false → FactA P T N ops Mq st0 env0 rs k) (hrb : ∀ k, Bs.elem k = true → rs k = none) (hqs : ∀ i, Mq.elem i = true → ∃ q, qs = some q ∧ q < ops.size ∧ Bs.elem q = true ∧ i ∈ M.getD q []) {Q : Env → Sto → Prop} {Q' : Exit → Act → World → Prop} {G0 : Gh} {w0 : World}
    (fin : ∀ G w a env st, Ext G0 w0 G w → Inv G w st → RE N G w env a → Q env st → Q' .normal a w) :
    ∀ (fuel : Nat) (listed : Array Bool) (b : Nat → Bool) (cur : Nat → Option AV) (p : Nat) (envv : Env) (st : Sto), listed.size = ops.size → (∀ i, i < ops.size → listed.getD i true = b i) → (∀ i, i < ops.size → b i = true → ∀ d ∈ edg ops i, b d = true) → ((List.range ops.size).filter fun i => !b i).length ≤ fuel →
      (∀ k, b k = false → cur k = none) → (∀ k, k < ops.size → Bs.elem k = false → b k = true → cur k = rs k) → p ≤ ops.size → (∀ k, k < ops.size → Bs.elem k = true → b k = decide (k < p)) →
      vdB P T N Bs st0 qs p (ops.toList.drop p) envv st Q → (∀ t, look envv t = look (envR N ops env0 (fun k => if Bs.elem k = true then cur k else rs k) ops.size) t) →
      ∀ G w a, Ext G0 w0 G w → Inv G w st → RE N G w (envR N ops env0 cur ops.size) a → wpAnyIn (fen ρ) 7 P .any ops Q' fuel listed a w := by
  obtain ⟨hanc, hpar⟩ := drawOkC_parts hok
  have ec : ∀ k, Bs.contains k = Bs.elem k := fun k => rfl
  have allDone : ∀ (listed : Array Bool) (b : Nat → Bool), listed.size = ops.size → (∀ i, i < ops.size → listed.getD i true = b i) → Region.ready .any ops listed = [] → ∀ i, i < ops.size → b i = true := by
    intro listed b hsz hlb hr i
    induction i using Nat.strongRecOn with
    | _ i ih =>
      intro hi
      cases hb : b i with
      | true => rfl
      | false =>
        have : i ∈ Region.ready .any ops listed := edg_ready.2 ⟨hi, by rw [hlb i hi]; exact hb, fun d hd => by
          have hdi := (ancOk_lt hanc hi).1 d hd
          have := hlb d (by omega)
          rw [ih d hdi (by omega)] at this
          have hds : d < listed.size := by omega
          rw [Array.getD_eq_getD_getElem?, Array.getElem?_eq_getElem hds] at this ⊢
          exact this⟩
        rw [hr] at this
        cases this
  have done : ∀ (listed : Array Bool) (b : Nat → Bool) (cur : Nat → Option AV) (p : Nat) (envv : Env) (st : Sto), listed.size = ops.size → (∀ i, i < ops.size → listed.getD i true = b i) → (∀ k, k < ops.size → Bs.elem k = false → b k = true → cur k = rs k) → p ≤ ops.size → (∀ k, k < ops.size → Bs.elem k = true → b k = decide (k < p)) →
      vdB P T N Bs st0 qs p (ops.toList.drop p) envv st Q → (∀ t, look envv t = look (envR N ops env0 (fun k => if Bs.elem k = true then cur k else rs k) ops.size) t) → Region.ready .any ops listed = [] →
      ∀ G w a, Ext G0 w0 G w → Inv G w st → RE N G w (envR N ops env0 cur ops.size) a → Q' .normal a w := by
    intro listed b cur p envv st hsz hlb hcr hp hbp hv hlk hr G w a hX hI hE
    have hall := allDone listed b hsz hlb hr
    have h1 := vdB_skip (ops := ops) (ops.size - p) (fun j h1 h2 => by
      cases hj : Bs.elem j with
      | false => rfl
      | true =>
        have := hbp j (by omega) hj
        rw [hall j (by omega)] at this
        have := of_decide_eq_true this.symm
        omega) (by omega) hv
    rw [show p + (ops.size - p) = ops.size by omega] at h1
    have e0 : ops.toList.drop ops.size = [] := by rw [List.drop_eq_nil_iff, Array.length_toList]; exact Nat.le_refl _
    rw [e0] at h1
    refine fin G w a envv st hX hI ⟨hE.size, hE.defers, fun t r h => hE.at_ t r ?_⟩ h1
    rw [hlk] at h
    rw [← h]
    refine look_envR ops.size (fun j hj _ => ?_)
    cases hjb : Bs.elem j with
    | true => simp
    | false => simp only [Bool.false_eq_true, if_false]; exact hcr j hj hjb (hall j hj)
  intro fuel
  induction fuel with
  | zero =>
    intro listed b cur p envv st hsz hlb hdc hfu hc0 hcr hp hbp hv hlk G w a hX hI hE
    have hr : Region.ready .any ops listed = [] := by
      rw [List.eq_nil_iff_forall_not_mem]
      intro i hi
      obtain ⟨h1, h2, _⟩ := edg_ready.1 hi
      have : i ∈ (List.range ops.size).filter fun i => !b i := List.mem_filter.2 ⟨List.mem_range.2 h1, by rw [← hlb i h1, h2]; rfl⟩
      rw [List.eq_nil_of_length_eq_zero (Nat.le_zero.1 hfu)] at this
      cases this
    exact ⟨hr, done listed b cur p envv st hsz hlb hcr hp hbp hv hlk hr G w a hX hI hE⟩
  | succ fuel ih =>
    intro listed b cur p envv st hsz hlb hdc hfu hc0 hcr hp hbp hv hlk G w a hX hI hE
    refine ⟨fun hr => done listed b cur p envv st hsz hlb hcr hp hbp hv hlk hr G w a hX hI hE, fun i hi => ?_⟩
    obtain ⟨hin, hli, hdeps⟩ := edg_ready.1 hi
    have hbi : b i = false := by rw [← hlb i hin]; exact hli
    have hdep : ∀ d ∈ edg ops i, b d = true := fun d hd => by
      have hdi := (ancOk_lt hanc hin).1 d hd
      have h1 := hdeps d hd
      rw [← hlb d (by omega)]
      have hds : d < listed.size := by omega
      rw [Array.getD_eq_getD_getElem?, Array.getElem?_eq_getElem hds] at h1 ⊢
      exact h1
    have hM : ∀ j ∈ M.getD i [], b j = true := anc_in hanc (b := fun j => b j = true) hdc i hin hdep
    have ho : ops[i]? = some ops[i] := Array.getElem?_eq_getElem hin
    generalize ops[i] = o at ho
    obtain ⟨hdst, hlook, hB, hA⟩ := hpar i o ho
    -- behind it
    have next : ∀ (G' : Gh) (w' : World) (a' : Act) (r : AV) (p' : Nat) (envv' : Env) (st' : Sto), (Bs.elem i = false → rs i = some r) → p' ≤ ops.size → (∀ k, k < ops.size → Bs.elem k = true → bUp b i k = decide (k < p')) →
        vdB P T N Bs st0 qs p' (ops.toList.drop p') envv' st' Q → (∀ t, look envv' t = look (envR N ops env0 (fun k => if Bs.elem k = true then updR cur i r k else rs k) ops.size) t) →
        Ext G0 w0 G' w' → Inv G' w' st' → RE N G' w' (put N (envR N ops env0 cur ops.size) o.dst r) a' → wpAnyIn (fen ρ) 7 P .any ops Q' fuel (listed.setIfInBounds i true) a' w' := by
      intro G' w' a' r p' envv' st' hr hp' hbp' hv' hlk' hX' hI' hE'
      refine ih _ (bUp b i) (updR cur i r) p' envv' st' (by simp [hsz]) (fun k hk => ?_) (fun k hk hbk d hd => ?_) ?_ (fun k hk => ?_) (fun k hk hkb hbk => ?_) hp' hbp' hv' hlk' G' w' a' hX' hI' ⟨hE'.size, hE'.defers, fun t x h => hE'.at_ t x ?_⟩
      · unfold bUp
        by_cases hki : k = i
        · subst hki
          have hks : k < listed.size := by omega
          simp [Array.getD_eq_getD_getElem?, hks]
        · rw [if_neg hki, ← hlb k hk]
          simp [Array.getD_eq_getD_getElem?, Array.getElem?_setIfInBounds_ne (Ne.symm hki)]
      · unfold bUp at hbk ⊢
        by_cases hki : k = i
        · subst hki
          by_cases hdk : d = k
          · rw [if_pos hdk]
          · rw [if_neg hdk]; exact hdep d hd
        · rw [if_neg hki] at hbk
          by_cases hdk : d = i
          · rw [if_pos hdk]
          · rw [if_neg hdk]; exact hdc k hk hbk d hd
      · have : ((List.range ops.size).filter fun j => !bUp b i j).length < ((List.range ops.size).filter fun j => !b j).length := by
          refine filter_lt (List.mem_range.2 hin) (by rw [hbi]; rfl) (by unfold bUp; rw [if_pos rfl]; rfl) (fun j hj => ?_)
          unfold bUp at hj
          split at hj
          · cases hj
          · exact hj
        omega
      · unfold bUp at hk
        split at hk
        · cases hk
        · rename_i hki; unfold updR; rw [if_neg hki]; exact hc0 k hk
      · unfold updR
        by_cases hki : k = i
        · subst hki; rw [if_pos rfl, hr hkb]
        · rw [if_neg hki]
          unfold bUp at hbk
          rw [if_neg hki] at hbk
          exact hcr k hk hkb hbk
      · rw [← h]
        exact (envR_upd ho (hc0 i hbi) hdst hin t).symm
    unfold wpOpIn
    rw [ho]
    dsimp only
    cases hbe : Bs.elem i with
    | true =>
      obtain ⟨hg, hch⟩ := hB hbe
      have hip : p ≤ i := by
        have := hbp i hin hbe
        rw [hbi] at this
        have := of_decide_eq_false this.symm
        omega
      have hno : ∀ j, p ≤ j → j < i → Bs.elem j = false := fun j h1 h2 => by
        cases hj : Bs.elem j with
        | false => rfl
        | true =>
          have h3 := hM j (hch j hj h2)
          rw [hbp j (by omega) hj] at h3
          have := of_decide_eq_true h3
          omega
      have h1 := vdB_skip (ops := ops) (i - p) (fun j h1 h2 => hno j h1 (by omega)) (by omega) hv
      rw [show p + (i - p) = i by omega] at h1
      have hlt : i < ops.toList.length := by rw [Array.length_toList]; exact hin
      have hoi : ops.toList[i] = o := by
        have : ops.toList[i]? = some o := by simpa using ho
        rw [List.getElem?_eq_getElem hlt] at this
        exact Option.some.inj this
      rw [List.drop_eq_getElem_cons hlt, hoi] at h1
      unfold vdB at h1
      rw [hbe] at h1
      have h1 : vop P T envv st o.op fun r st => vdB P T N Bs st0 qs (i + 1) (ops.toList.drop (i + 1)) (put N envv o.dst r) st Q := by
        dsimp only at h1
        split at h1
        · exact h1
        · split at h1
          · exact h1.2
          · exact h1
      have same : ∀ t ∈ o.looksAt ops, look envv t = look (envR N ops env0 cur ops.size) t := fun t ht => by
        rw [hlk]
        refine look_envR ops.size (fun j hj hjd => ?_)
        have hjb := hM j (hlook t ht j hjd)
        cases hjB : Bs.elem j with
        | true => simp
        | false => simp only [Bool.false_eq_true, if_false]; exact (hcr j hj hjB hjb).symm
      have sameEv : ∀ x ∈ o.op.operands, ev envv x = ev (envR N ops env0 cur ops.size) x := fun x hx => by
        cases x with
        | tmp t => exact same t (looks_op hx)
        | _ => rfl
      have h2 := vop_congr sameEv h1
      have hw : Region.wanted o (yielded ops a.tmps) = true := by simp [Region.wanted, hg]
      rw [if_pos hw]
      have hop := vop_ok TP (N := N) (o := o) (K := fun env' s => ∃ r, env' = put N (envR N ops env0 cur ops.size) o.dst r ∧ vdB P T N Bs st0 qs (i + 1) (ops.toList.drop (i + 1)) (put N envv o.dst r) s Q) (vop_mono (fun r s h => ⟨r, rfl, h⟩) h2)
      refine Oper.wpIn_mono ?_ (hop ρ G w a hI hE Q')
      rintro a' w' ⟨G', env', st', ⟨r, rfl, hvr⟩, q2, q3, q4⟩
      refine next G' w' a' r (i + 1) (put N envv o.dst r) st' (fun h => by rw [hbe] at h; cases h) (by omega) (fun k hk hkb => ?_) hvr (fun t => ?_) (hX.trans q2) q3 q4
      · unfold bUp
        by_cases hki : k = i
        · subst hki; rw [if_pos rfl]; symm; exact decide_eq_true (by omega)
        · rw [if_neg hki, hbp k hk hkb]
          by_cases hkp : k < p
          · rw [decide_eq_true hkp, decide_eq_true (show k < i + 1 by omega)]
          · rw [decide_eq_false hkp]
            symm
            refine decide_eq_false (fun hki2 => ?_)
            have := hno k (by omega) (by omega)
            rw [hkb] at this
            cases this
      · have e : (fun k => if Bs.elem k = true then updR cur i r k else rs k) = updR (fun k => if Bs.elem k = true then cur k else rs k) i r := by
          funext k
          unfold updR
          by_cases hki : k = i
          · subst hki; rw [if_pos rfl, hbe]; simp
          · rw [if_neg hki, if_neg hki]
        rw [e, envR_upd ho (by rw [hbe]; simp; exact hc0 i hbi) hdst hin t]
        exact look_put_congr (hlk t)
    | false =>
      obtain ⟨o', r, ho', hri, hfact⟩ := hf i hin hbe
      rw [ho] at ho'
      cases ho'
      have hnoB := hA hbe
      have same : ∀ t ∈ o.looksAt ops, look (envR N ops env0 rs i) t = look (envR N ops env0 cur ops.size) t := fun t ht => by
        have e1 : look (envR N ops env0 cur ops.size) t = look (envR N ops env0 rs ops.size) t := look_envR ops.size (fun j hj hjd => by
          have hjM := hlook t ht j hjd
          exact hcr j hj (hnoB j hjM) (hM j hjM))
        have e2 : look (envR N ops env0 rs ops.size) t = look (envR N ops env0 rs i) t := by
          have e3 : look (envR N ops env0 rs ops.size) t = look (envR N ops env0 (fun k => if k < i then rs k else none) ops.size) t := look_envR ops.size (fun j hj hjd => by
            have := ((ancOk_lt hanc hin).2 j (hlook t ht j hjd)).1
            simp [this])
          rw [e3, envR_le (k := i) (by omega) (fun j h2 _ _ => by simp; omega)]
          exact congrArg (look · t) (envR_congr i (fun j hj => by simp [hj]))
        rw [e1, e2]
      have sameEv : ∀ x ∈ o.op.operands, ev (envR N ops env0 rs i) x = ev (envR N ops env0 cur ops.size) x := fun x hx => by
        cases x with
        | tmp t => exact same t (looks_op hx)
        | _ => rfl
      have bSame : ∀ k, k < ops.size → Bs.elem k = true → bUp b i k = decide (k < p) := fun k hk hkb => by
        unfold bUp
        rw [if_neg (fun e => by subst e; rw [hbe] at hkb; cases hkb)]
        exact hbp k hk hkb
      have lkSame : ∀ t, look envv t = look (envR N ops env0 (fun k => if Bs.elem k = true then updR cur i r k else rs k) ops.size) t := fun t => by
        rw [hlk]
        refine look_envR ops.size (fun j hj _ => ?_)
        by_cases hji : j = i
        · subst hji; rw [hbe]; simp
        · unfold updR; rw [if_neg hji]
      rcases hfact with ⟨j, want, d, r', hg, hd, hl, hne, rfl⟩ | ⟨hg, hrun⟩
      · rw [same d (looks_guard hg hd)] at hl
        obtain ⟨v, h3, h4⟩ := hE.at_ _ _ hl
        have hw : ¬ (Region.wanted o (yielded ops a.tmps) = true) := by
          rcases hne with ⟨b1, rfl, hne⟩ | ⟨l, rfl⟩
          · have hv : v = .bool b1 := by have := h4.cel; cases this; rfl
            subst hv
            have hy : yielded ops a.tmps j = some b1 := by simp [yielded, hd, h3]
            simp [Region.wanted, hg, hy, hne]
          · have hv : ∃ vs, v = .tuple vs := by cases h4; exact ⟨_, rfl⟩
            obtain ⟨vs, rfl⟩ := hv
            have hy : yielded ops a.tmps j = none := by simp [yielded, hd, h3]
            simp [Region.wanted, hg, hy]
        rw [if_neg hw]
        exact ⟨fun _ _ => trivial, next G w _ (.t []) p envv st (fun _ => hri) hp bSame hv lkSame hX hI (hE.put (.t [] _ rfl (fun j x v h _ => by simp at h)) _)⟩
      · have hw : Region.wanted o (yielded ops a.tmps) = true := by
          rcases hg with hg | ⟨j, want, d, hg, hd, hl⟩
          · simp [Region.wanted, hg]
          · rw [same d (looks_guard hg hd)] at hl
            obtain ⟨v, h3, h4⟩ := hE.at_ _ _ hl
            have hv : v = .bool want := by have := h4.cel; cases this; rfl
            subst hv
            have hy : yielded ops a.tmps j = some want := by simp [yielded, hd, h3]
            simp [Region.wanted, hg, hy]
        rw [if_pos hw]
        have hle : Le (rdst Mq st0 i) st := by
          unfold rdst
          cases hmq : Mq.elem i with
          | false => exact fun id o h => by cases h
          | true =>
            obtain ⟨q, rfl, hq1, hq2, hq3⟩ := hqs i hmq
            have hbq : b q = false := by
              cases hbq : b q with
              | false => rfl
              | true =>
                have := anc_in hanc (b := fun j => b j = true) hdc q hq1 (hdc q hq1 hbq) i hq3
                rw [hbi] at this; cases this
            have hpq : p ≤ q := by
              have := hbp q hq1 hq2
              rw [hbq] at this
              have := of_decide_eq_false this.symm
              omega
            exact vdB_le hq2 hq1 (q - p) (by omega) hv
        have h2 := vop_congr sameEv (hrun st hle)
        have hop := vop_ok TP (N := N) (o := o) (K := fun env' s => env' = put N (envR N ops env0 cur ops.size) o.dst r ∧ s = st) (vop_mono (fun r s h => ⟨by rw [h.1], h.2⟩) h2)
        refine Oper.wpIn_mono ?_ (hop ρ G w a hI hE Q')
        rintro a' w' ⟨G', env', st', ⟨rfl, rfl⟩, q2, q3, q4⟩
        exact next G' w' a' r p envv _ (fun _ => hri) hp bSame hv lkSame (hX.trans q2) q3 q4
/-- a region that draws its order, with a chain of changes -/
theorem Pw.drwG {ρ : Option Nat} (TP : TOk P T) (hm : P.follows .mixedOrders = true) (Bs : List Nat) {id : Nat} (hok : drawOkC ops (mkA ops ops.size) Bs = true) {Q : Exit → Env → Sto → Prop} {env : Env} {st : Sto}
    (hqs : ∀ i, Mq.elem i = true → ∃ q, qs = some q ∧ q < ops.size ∧ Bs.elem q = true ∧ i ∈ (mkA ops ops.size).getD q [])
    (h : vdA P T N ops Bs Mq st 0 ops.toList env fun env => vdB P T N Bs st qs 0 ops.toList env st (Q .normal)) : Pw (ρ := ρ) P N (.region id ops true) Q env st := ⟨fun G w a hI hE => by
  refine wpIn_region_any hm ?_
  have hI' : Inv G { w with drawn := w.drawn + 1 } st := Inv.heap (w := w) (w' := { w with drawn := w.drawn + 1 }) rfl hI
  have hX0 : Ext G w G { w with drawn := w.drawn + 1 } := Ext.heap (w := w) (w1 := w) (w' := { w with drawn := w.drawn + 1 }) rfl ⟨rfl, rfl, rfl⟩ (Ext.refl G w)
  have hE' := hE.ext hX0
  have hnone : ∀ k, envR N ops env (fun _ => none) k = env := by
    intro k
    induction k with
    | zero => rfl
    | succ k ih =>
      unfold envR
      rw [ih]
      cases ops[k]? <;> rfl
  obtain ⟨rs, h1, h2, h3⟩ := planA (P := P) (T := T) (N := N) (ops := ops) (Bs := Bs) (Mq := Mq) (st0 := st) (env0 := env) ops.toList 0 (fun _ => none) rfl (Nat.zero_le _) (fun _ _ => rfl) (fun k hk => absurd hk (Nat.not_lt_zero k)) (fun _ _ => rfl) h
  exact drawC_any (ρ := ρ) TP hok h1 h2 hqs (Q := Q .normal) (Q' := fun e a' w' => ∃ G' env' st', Q e env' st' ∧ Ext G w G' w' ∧ Inv G' w' st' ∧ RE N G' w' env' a') (G0 := G) (w0 := w)
    (fun G' w' a' env' st' hx hi he hq => ⟨G', env', st', hq, hx, hi, he⟩)
    ops.size (Array.replicate ops.size false) (fun _ => false) (fun _ => none) 0 (envR N ops env rs ops.size) st (by simp) (fun i hi => by simp [Array.getD_eq_getD_getElem?, hi]) (fun i hi h => by cases h) (Nat.le_trans (List.length_filter_le _ _) (by simp))
    (fun _ _ => rfl) (fun k _ _ h => by cases h) (Nat.zero_le _) (fun k _ _ => by simp) h3 (fun t => look_envR ops.size (fun j hj _ => by
      cases hjB : Bs.elem j with
      | true => rw [h2 j hjB]; simp
      | false => simp))
    G { w with drawn := w.drawn + 1 } a hX0 hI' (by rw [hnone]; exact hE')⟩
theorem Pw.drwC {ρ : Option Nat} (TP : TOk P T) (hm : P.follows .mixedOrders = true) (Bs : List Nat) {id : Nat} (hok : drawOkC ops (mkA ops ops.size) Bs = true) {Q : Exit → Env → Sto → Prop} {env : Env} {st : Sto}
    (h : vdA P T N ops Bs [] st 0 ops.toList env fun env => vdB P T N Bs st none 0 ops.toList env st (Q .normal)) : Pw (ρ := ρ) P N (.region id ops true) Q env st := Pw.drwG (Mq := []) (qs := none) TP hm Bs hok (fun i h => by cases h) h
/-- .. where the operations of Mq read memory, ahead of the operation q, the first that changes old objects -/
theorem Pw.drwQ {ρ : Option Nat} (TP : TOk P T) (hm : P.follows .mixedOrders = true) (Bs : List Nat) (q : Nat) (Mq : List Nat) {id : Nat} (hok : (drawOkC ops (mkA ops ops.size) Bs && (decide (q < ops.size) && (Bs.elem q && Mq.all fun i => ((mkA ops ops.size).getD q []).contains i))) = true) {Q : Exit → Env → Sto → Prop} {env : Env} {st : Sto}
    (h : vdA P T N ops Bs Mq st 0 ops.toList env fun env => vdB P T N Bs st (some q) 0 ops.toList env st (Q .normal)) : Pw (ρ := ρ) P N (.region id ops true) Q env st := by
  simp only [Bool.and_eq_true, decide_eq_true_eq] at hok
  refine Pw.drwG (Mq := Mq) (qs := some q) TP hm Bs hok.1 (fun i hi => ⟨q, rfl, hok.2.1, hok.2.2.1, ?_⟩) h
  have := List.all_eq_true.1 hok.2.2.2 i (List.contains_iff_mem.1 hi)
  exact List.contains_iff_mem.1 this
/-- arguments are seen otherwise, once the objects of D no longer change -/
theorem Does.argsD {f : FuncId} {as as' : List AV} {st st' : Sto} {K : AV → Sto → Prop} (D : Nat → Bool) (hs : ∀ id o, st' id = some o → st id = some o ∧ D id = false) (hl : as'.length = as.length) (hv : ∀ (j : Nat) r r', as[j]? = some r → as'[j]? = some r' → FV D st r r') (h : Does P f as' st' K) : Does P f as st K := by
  refine ⟨h.fn, fun G w vs hI hr => ?_⟩
  have h2 := h.out (G.frz D st w) w vs (hI.frz D hs) ⟨by rw [hr.1, hl], fun j r' v h1 h2 => ?_⟩
  · exact h2.mono fun e w' ⟨G', r, s, v, k1, k2, k3, k4⟩ => ⟨G', r, s, v, k1, k2, (Ext.frz G D st w).trans k3, k4⟩
  · have hlt : j < as.length := by rw [← hl]; exact (List.getElem?_eq_some_iff.1 h1).1
    exact (hv j _ r' (List.getElem?_eq_getElem hlt) h1).ok hI (hr.2 j _ v (List.getElem?_eq_getElem hlt) h2)
theorem FV.gl {D : Nat → Bool} {st : Sto} {xs ys : List AC} (h : F2 (Fz D st) xs ys) : FV D st (.g xs) (.g ys) := by
  refine .g xs ys ?_ ?_
  · induction h with
    | nil => rfl
    | cons _ _ ih => simp [ih]
  · intro j c c' h1 h2
    induction h generalizing j with
    | nil => simp at h1
    | cons h t ih =>
      cases j with
      | zero => cases h1; cases h2; exact h
      | succ j => exact ih j h1 h2
theorem F2.get {α β : Type} {R : α → β → Prop} {l : List α} {m : List β} (h : F2 R l m) : l.length = m.length ∧ ∀ (i : Nat) a b, l[i]? = some a → m[i]? = some b → R a b := by
  induction h with
  | nil => exact ⟨rfl, fun i a b h => by simp at h⟩
  | cons h t ih =>
    refine ⟨by simp [ih.1], fun i a b h1 h2 => ?_⟩
    cases i with
    | zero => simp at h1 h2; subst h1; subst h2; exact h
    | succ i => exact ih.2 i a b (by simpa using h1) (by simpa using h2)
theorem Fz.sl2 {D : Nat → Bool} {st : Sto} {sz : Nat} {xs ys : List (List AC)} (h : F2 (F2 (Fz D st)) xs ys) (hr : ∀ r ∈ ys, r.length = sz) : Fz D st (.sl sz xs) (.sl sz ys) :=
  .sl sz xs ys h.get.1.symm (fun i r hi => hr r (List.mem_of_getElem? hi)) fun i r r' j c c' h1 h2 h3 h4 => (h.get.2 i r r' h1 h2).get.2 j c c' h3 h4
theorem F2.same {D : Nat → Bool} {st : Sto} : ∀ (l : List AC), F2 (Fz D st) l l
  | [] => .nil
  | c :: l => .cons (.refl c) (F2.same l)
theorem Fz.arr0 {D : Nat → Bool} {st : Sto} {id sz : Nat} {rows : List (List AC)} (hd : D id = true) (hs : st id = some (.ar sz rows)) (hr : ∀ r ∈ rows, r.length = sz) : Fz D st (.arr id 0 rows.length) (.sl sz rows) :=
  Fz.arr id 0 rows.length sz rows rows hd hs (by omega) rfl (fun i r hi => hr r (List.mem_of_getElem? hi)) (fun i r r' j c c' q1 q2 q3 q4 => by
    rw [Nat.zero_add] at q1
    rw [q1] at q2
    cases q2
    rw [q3] at q4
    cases q4
    exact .refl _)
/-- a list that grew is settled -/
theorem Pw.frzG {ρ : Option Nat} {st0 st : Sto} {sz : Nat} {a : AC} {rows : List (List AC)} {env : Env} {c : Code} {Q : Exit → Env → Sto → Prop} (t : Nat) (keep : List Nat) (hg : Grow st0 sz st a rows) (hr : ∀ r ∈ rows, r.length = sz) (hl : look env t = some (.c a))
    (h : Pw (ρ := ρ) P N c Q ((t, .c (.sl sz rows)) :: sub env keep) st0) : Pw (ρ := ρ) P N c Q env st := by
  obtain ⟨D, h1, h2⟩ := hg.fv hr
  refine Pw.vw (env' := (t, .c (.sl sz rows)) :: sub env keep) (st' := st0) ⟨D, ⟨⟨_, hl, .c _ _ (h1 D fun _ h => h)⟩, ?_⟩, fun i o hi => ⟨hg.1 i o hi, ?_⟩⟩ h
  · have key : ∀ l : Env, EVe env l → EV D st env l := by
      intro l
      induction l with
      | nil => intro _; trivial
      | cons p l ih => intro h; exact ⟨⟨p.2, h.1, .refl _⟩, ih h.2⟩
    exact key _ (EVe.sub keep)
  · cases hd : D i with
    | false => rfl
    | true => rw [h2 i hd] at hi; cases hi
theorem Fin.growR {st0 st : Sto} {sz : Nat} {r : AV} {b : AC} {rows : List (List AC)} {Q : AV → Sto → Prop} (hg : Grow st0 sz st b rows) (hr : ∀ r ∈ rows, r.length = sz) (k : Q (.t [r, .c (.sl sz rows)]) st0) : Fin Q (.t [r, .c b]) st := by
  obtain ⟨D, h1, h2⟩ := hg.fv hr
  refine ⟨D, st0, _, .t _ _ (by simp) (fun j c c' q1 q2 => ?_), fun i o hi => ⟨hg.1 i o hi, ?_⟩, k⟩
  · match j, q1, q2 with
    | 0, q1, q2 => cases q1; cases q2; exact .refl _
    | 1, q1, q2 => cases q1; cases q2; exact .c _ _ (h1 _ fun i h => h)
    | j + 2, q1, q2 => simp at q1
  · cases hd : D i with
    | true => rw [h2 i hd] at hi; cases hi
    | false => rfl
theorem Fin.growL {st0 st : Sto} {sz : Nat} {r : AV} {b : AC} {rows : List (List AC)} {Q : AV → Sto → Prop} (hg : Grow st0 sz st b rows) (hr : ∀ r ∈ rows, r.length = sz) (k : Q (.t [.c (.sl sz rows), r]) st0) : Fin Q (.t [.c b, r]) st := by
  obtain ⟨D, h1, h2⟩ := hg.fv hr
  refine ⟨D, st0, _, .t _ _ (by simp) (fun j c c' q1 q2 => ?_), fun i o hi => ⟨hg.1 i o hi, ?_⟩, k⟩
  · match j, q1, q2 with
    | 0, q1, q2 => cases q1; cases q2; exact .c _ _ (h1 _ fun i h => h)
    | 1, q1, q2 => cases q1; cases q2; exact .refl _
    | j + 2, q1, q2 => simp at q1
  · cases hd : D i with
    | true => rw [h2 i hd] at hi; cases hi
    | false => rfl
end Go.Proofs.YtbmgenifdlgbmaaGreat.D.Pm
namespace Go.Proofs.YtbmgenifdlgbmaaGreat.D.Pm
set_option linter.unusedVariables false
set_option linter.unusedSimpArgs false
open Go
/-- all that was there before is settled -/
def top (w : World) : Gh := ⟨fun _ => False, fun _ => False, fun _ => none, fun k => k < w.heap.size, 0⟩
theorem top_inv (w : World) : Inv (top w) w (fun _ => none) :=
  ⟨fun id o h => (by cases h), fun id g sz h => (by cases h), fun id id' g sz sz' h => (by cases h), fun k h => h, 0, fun id h => (by rcases h with h | h <;> exact h.elim)⟩
theorem Ext.below {w w' : World} {G : Gh} (h : Ext (top w) w G w') : RowKit.Below w.heap.size w w' :=
  ⟨h.out.1, h.out.2.1, h.out.2.2, h.size, fun k hk => h.kept k hk⟩
/-- what reads as a thing of the kind f, and is as ok says -/
def Rd (P : Program) (t : TypeId) {α : Type} (f : α → List AC) (ok : α → Prop) (m : Nat) : Prop :=
  ∀ (H : Type) (enc : TypeId × Value → H) (w : World) (base : Nat) (spare : Nat → Bool) (held : Bool) (fuel : Nat) (cs : List Value) (x : DataW H × List MemPlace),
    fuel ≤ m → DataW.trod enc P w base spare held fuel t cs = some x → ∃ a, ok a ∧ Rel2 (top w) w (f a) cs
theorem rel1 {G : Gh} {w : World} {c : AC} {v : Value} (h : RC G w c v) : Rel2 G w [c] [v] := ⟨rfl, fun j c' v' h1 h2 => by
  match j, h1, h2 with
  | 0, h1, h2 => cases h1; cases h2; exact h
  | j + 1, h1, h2 => simp at h1⟩
theorem Rel2.app {G : Gh} {w : World} {cs ds : List AC} {us vs : List Value} (h : Rel2 G w cs us) (h' : Rel2 G w ds vs) : Rel2 G w (cs ++ ds) (us ++ vs) := by
  refine ⟨by rw [List.length_append, List.length_append, h.1, h'.1], fun j c v h1 h2 => ?_⟩
  have := h.1
  by_cases hj : j < cs.length
  · rw [List.getElem?_append_left hj] at h1
    rw [List.getElem?_append_left (by omega)] at h2
    exact h.2 j c v h1 h2
  · rw [List.getElem?_append_right (by omega)] at h1
    rw [List.getElem?_append_right (by omega)] at h2
    rw [this] at h2
    exact h'.2 _ c v h1 h2
section
variable {P : Program} {t : TypeId} {m : Nat}
theorem Rd.zero {α : Type} {f : α → List AC} {ok : α → Prop} : Rd P t f ok 0 := fun H enc w base spare held fuel cs x hm hx => by
  obtain rfl : fuel = 0 := by omega
  simp [DataW.trod] at hx
theorem Rd.mono {α : Type} {f : α → List AC} {ok ok' : α → Prop} (h : Rd P t f ok m) (i : ∀ a, ok a → ok' a) : Rd P t f ok' m := fun H enc w base spare held fuel cs x hm hx => by
  obtain ⟨a, h1, h2⟩ := h H enc w base spare held fuel cs x hm hx
  exact ⟨a, i a h1, h2⟩
theorem Rd.less {α : Type} {f : α → List AC} {ok : α → Prop} (h : Rd P t f ok (m + 1)) : Rd P t f ok m := fun H enc w base spare held fuel cs x hm hx => h H enc w base spare held fuel cs x (by omega) hx
theorem Rd.int {k : IntKind} (ht : P.underlying t = some (.int k)) : Rd P t (fun n => [.v (.int k n)]) (fun n => (Lit.int k n).wf = true) m := fun H enc w base spare held fuel cs x _ hx => by
  obtain ⟨n, rfl, _, hw⟩ := DataW.trod_int ht hx
  exact ⟨n, hw, rel1 (.v _ rfl)⟩
theorem Rd.str (ht : P.underlying t = some .string) : Rd P t (fun s => [.v (.string s)]) (fun s => s.size ≤ maxLen) m := fun H enc w base spare held fuel cs x _ hx => by
  obtain ⟨s, rfl, _, hw⟩ := DataW.trod_string ht hx
  exact ⟨s, hw, rel1 (.v _ rfl)⟩
theorem trod_bool {H : Type} {enc : TypeId × Value → H} {w : World} {base : Nat} {spare : Nat → Bool} {held : Bool} {fuel : Nat} {cs : List Value} {x : DataW H × List MemPlace}
    (ht : P.underlying t = some .bool) (h : DataW.trod enc P w base spare held fuel t cs = some x) : ∃ b, cs = [.bool b] := by
  cases fuel with
  | zero => simp [DataW.trod] at h
  | succ n =>
    unfold DataW.trod at h
    rw [ht] at h
    split at h <;> simp_all
theorem Rd.bool (ht : P.underlying t = some .bool) : Rd P t (fun b => [.v (.bool b)]) (fun _ => True) m := fun H enc w base spare held fuel cs x _ hx => by
  obtain ⟨s, rfl⟩ := trod_bool ht hx
  exact ⟨s, trivial, rel1 (.v _ rfl)⟩
theorem cells_some {w : World} {base : Nat} {a : Addr} {n : Nat} {cs : List Value} (h : w.cells? base a n = some cs) : cs.length = n ∧ ∀ i u, cs[i]? = some u → w.cell? (a.add i) = some u := by
  unfold World.cells? at h
  split at h
  · have hl : cs.length = n := by simpa using mapM_some_length h
    refine ⟨hl, fun i u hi => ?_⟩
    have hlt : i < n := by
      have := (List.getElem?_eq_some_iff.1 hi).1
      omega
    have := mapM_some_get h i i (by simp [hlt])
    rw [hi] at this
    exact this
  · simp_all
theorem list_of {β α : Type} {Q : Nat → β → α → Prop} : ∀ (es : List β), (∀ i y, es[i]? = some y → ∃ a, Q i y a) → ∃ xs : List α, xs.length = es.length ∧ ∀ (i : Nat) (a : α), xs[i]? = some a → ∃ y, es[i]? = some y ∧ Q i y a := by
  intro es h
  have hx : ∀ i : _root_.Fin es.length, ∃ a, Q i.1 (es[i.1]'i.2) a := fun i => h i.1 _ (List.getElem?_eq_getElem i.2)
  let g : _root_.Fin es.length → α := fun i => Classical.choose (hx i)
  have hg : ∀ i : _root_.Fin es.length, Q i.1 (es[i.1]'i.2) (g i) := fun i => Classical.choose_spec (hx i)
  refine ⟨List.ofFn g, by simp, fun i a hi => ?_⟩
  rw [List.getElem?_ofFn] at hi
  split at hi
  · rename_i hlt
    cases hi
    exact ⟨_, List.getElem?_eq_getElem hlt, hg ⟨i, hlt⟩⟩
  · cases hi
theorem cell_adr {w : World} {a : Addr} {v : Value} (h : w.cell? a = some v) : a = adr a.block a.off ∧ a.block < w.heap.size := by
  obtain ⟨g, o, sp⟩ := a
  unfold World.cell? at h
  dsimp only at h
  cases hg : w.heap[g]? with
  | none => rw [hg] at h; cases h
  | some x =>
    refine ⟨?_, (Array.getElem?_eq_some_iff.1 hg).1⟩
    rw [hg] at h
    cases sp with
    | none => rfl
    | some s => cases x <;> simp at h
theorem Rd.sl {e : TypeId} {sz : Nat} (hsz : 0 < sz) (ht : P.underlying t = some (.slice e)) (hc : P.cellsOf e = sz) {α : Type} {f : α → List AC} {ok : α → Prop} (h : Rd P e f ok m) :
    Rd P t (fun xs : List α => [.sl sz (xs.map f)]) (fun xs => xs.length ≤ maxLen ∧ ∀ x ∈ xs, ok x) m := fun H enc w base spare held fuel cs x hfm hx => by
  rcases DataW.trod_slice ht hx with ⟨rfl, _⟩ | ⟨a, len, cap, elems, rest, n, hfn, rfl, _, _, hl, hm, he, hel, _, _⟩
  · exact ⟨[], ⟨Nat.zero_le _, fun x hx => by cases hx⟩, rel1 (.sl sz [] none 0 0 (fun _ _ => undef) rfl (Nat.le_refl _) (Nat.zero_le _) (fun i cs h => by simp at h) 0 0 (fun h => absurd h (Nat.lt_irrefl _)) (fun i cs j c h => by simp at h) (fun i cs j c h => by simp at h))⟩
  · obtain ⟨xs, hxl, hxs⟩ := list_of (Q := fun i y a2 => ok a2 ∧ ∃ c : List Value, c.length = sz ∧ Rel2 (top w) w (f a2) c ∧ ∀ j u, c[j]? = some u → w.cell? (a.add (i * sz + j)) = some u) elems (by
        intro i y hi
        have hlt : i < len := by
          have := (List.getElem?_eq_some_iff.1 hi).1
          omega
        have hb := hel i hlt
        rw [hi] at hb
        obtain ⟨c, hc1, hc2⟩ := Option.bind_eq_some_iff.1 hb
        obtain ⟨hcl, hcell⟩ := cells_some hc1
        obtain ⟨a2, ho, hk⟩ := h H enc w base spare held n c y (by omega) hc2
        rw [hc] at hcl hcell
        refine ⟨a2, ho, c, hcl, hk, fun j u hj => ?_⟩
        have := hcell j u hj
        rwa [Addr.add_add] at this)
    have hxn : xs.length = len := by omega
    have hrow : ∀ (i : Nat) r, (xs.map f)[i]? = some r → ∃ a2 c, xs[i]? = some a2 ∧ r = f a2 ∧ c.length = sz ∧ r.length = sz ∧ Rel2 (top w) w r c ∧ ∀ j u, c[j]? = some u → w.cell? (a.add (i * sz + j)) = some u := fun i r hi => by
      rw [List.getElem?_map] at hi
      obtain ⟨a2, ha, rfl⟩ := Option.map_eq_some_iff.1 hi
      obtain ⟨y, _, _, c, h1, h2, h3⟩ := hxs i a2 ha
      exact ⟨a2, c, ha, rfl, h1, by rw [← h2.1, h1], h2, h3⟩
    have hadr : 0 < len → a = adr a.block a.off ∧ a.block < w.heap.size := fun hp => by
      have hlt : 0 < (xs.map f).length := by rw [List.length_map]; omega
      obtain ⟨a2, c, _, _, h1, _, _, h3⟩ := hrow 0 _ (List.getElem?_eq_getElem hlt)
      have h5 := h3 0 c[0] (List.getElem?_eq_getElem (by omega))
      rw [show (0 * sz + 0 : Nat) = 0 by omega] at h5
      have e0 : a.add 0 = a := by unfold Addr.add; simp
      rw [e0] at h5
      exact cell_adr h5
    refine ⟨xs, ⟨by omega, fun p hp => ?_⟩, rel1 (.sl sz (xs.map f) (some a) len cap (fun i j => (w.cell? (a.add (i * sz + j))).getD undef) (by rw [List.length_map, hxn]) hl hm (fun i r hi => (hrow i r hi).choose_spec.choose_spec.2.2.2.1) a.block a.off (fun hp => ⟨congrArg some (hadr hp).1, (hadr hp).2⟩) (fun i r j c hi hj => ?_) (fun i r j c hi hj => ?_))⟩
    · obtain ⟨j, hj, rfl⟩ := List.mem_iff_getElem.1 hp
      obtain ⟨y, hy, ho, _⟩ := hxs j _ (List.getElem?_eq_getElem hj)
      exact ho
    · obtain ⟨a2, cv, h0, _, h1, h2, h3, h4⟩ := hrow i r hi
      have hlt : j < cv.length := by have := (List.getElem?_eq_some_iff.1 hj).1; omega
      have hp : 0 < len := by have := (List.getElem?_eq_some_iff.1 h0).1; omega
      have hu := h4 j cv[j] (List.getElem?_eq_getElem hlt)
      have ea := (hadr hp).1
      rw [hu]
      rw [ea, adr_add] at hu
      exact hu
    · obtain ⟨a2, cv, h0, _, h1, h2, h3, h4⟩ := hrow i r hi
      have hlt : j < cv.length := by have := (List.getElem?_eq_some_iff.1 hj).1; omega
      have hu := h4 j cv[j] (List.getElem?_eq_getElem hlt)
      rw [hu]
      exact h3.2 j c _ hj (List.getElem?_eq_getElem hlt)
/-- the fields of a struct, one behind the other, from a place on -/
def RdF (P : Program) (off sz : Nat) (fs : List Field) {α : Type} (f : α → List AC) (ok : α → Prop) (m : Nat) : Prop :=
  ∀ (H : Type) (enc : TypeId × Value → H) (w : World) (base : Nat) (spare : Nat → Bool) (held : Bool) (n : Nat) (cs : List Value),
    n ≤ m → cs.length = off + sz → (∀ (i : Nat) (g : Field), fs[i]? = some g → ∃ x, DataW.trod enc P w base spare held n g.type ((cs.drop g.offset).take (P.cellsOf g.type)) = some x) →
    ∃ a, ok a ∧ Rel2 (top w) w (f a) (cs.drop off)
theorem RdF.last {off sz : Nat} {g : Field} {α : Type} {f : α → List AC} {ok : α → Prop} (ho : g.offset = off) (hc : P.cellsOf g.type = sz) (h : Rd P g.type f ok m) : RdF P off sz [g] f ok m :=
  fun H enc w base spare held n cs hm hl hf => by
    obtain ⟨x, hx⟩ := hf 0 g rfl
    rw [ho, hc, List.take_of_length_le (by rw [List.length_drop]; omega)] at hx
    exact h H enc w base spare held n _ x hm hx
theorem RdF.cons {off s1 s2 : Nat} {g : Field} {fs : List Field} {α β : Type} {f : α → List AC} {f2 : β → List AC} {ok : α → Prop} {ok2 : β → Prop} (ho : g.offset = off) (hc : P.cellsOf g.type = s1) (h : Rd P g.type f ok m) (r : RdF P (off + s1) s2 fs f2 ok2 m) :
    RdF P off (s1 + s2) (g :: fs) (fun x : α × β => f x.1 ++ f2 x.2) (fun x => ok x.1 ∧ ok2 x.2) m :=
  fun H enc w base spare held n cs hm hl hf => by
    obtain ⟨x, hx⟩ := hf 0 g rfl
    rw [ho, hc] at hx
    obtain ⟨a, ha, hk⟩ := h H enc w base spare held n _ x hm hx
    obtain ⟨b, hb, hk2⟩ := r H enc w base spare held n cs hm (by omega) (fun i g hg => hf (i + 1) g (by simpa using hg))
    refine ⟨(a, b), ⟨ha, hb⟩, ?_⟩
    have := hk.app hk2
    rwa [← List.drop_drop, List.take_append_drop] at this
theorem Rd.st {fs : Array Field} {sz : Nat} {α β : Type} {f : α → List AC} {ok : α → Prop} {f' : β → List AC} {ok' : β → Prop} (u : α → β) (hu : ∀ a, f' (u a) = f a ∧ (ok a → ok' (u a))) (ht : P.underlying t = some (.struct fs)) (hc : P.cellsOf t = sz) (h : RdF P 0 sz fs.toList f ok m) :
    Rd P t f' ok' (m + 1) := fun H enc w base spare held fuel cs x hm hx => by
  obtain ⟨xs, n, hfn, _, hl, hn, hall⟩ := DataW.trod_struct ht hx
  obtain ⟨a, ho, hk⟩ := h H enc w base spare held n cs (by omega) (by omega) (fun i f hf => by
    have hf' : fs[i]? = some f := by simpa using hf
    have hi : i < xs.length := by
      have := (Array.getElem?_eq_some_iff.1 hf').1
      omega
    exact ⟨_, (hall i f hf').trans (List.getElem?_eq_getElem hi)⟩)
  refine ⟨u a, (hu a).2 ho, ?_⟩
  rw [(hu a).1]
  simpa using hk
end
/-- an argument that came in: of one cell; of many -/
theorem Rd.arg1 {P : Program} {t : TypeId} {α : Type} {c : α → AC} {ok : α → Prop} (h : ∀ m, Rd P t (fun a => [c a]) ok m) {H : Type} {enc : TypeId × Value → H} {w : World} {base : Nat} {spare : Nat → Bool} {held : Bool} {v : Value} {d : DataW H} {p : List MemPlace}
    (hv : v.cells = #[v]) (hT : DataW.Trod enc P w base spare held t v d p) : ∃ a, ok a ∧ RV (top w) w (.c (c a)) v := by
  obtain ⟨m, hm⟩ := hT
  obtain ⟨a, h1, h2⟩ := h m H enc w base spare held m _ _ (Nat.le_refl _) hm
  rw [hv] at h2
  exact ⟨a, h1, .c _ _ (h2.2 0 _ v rfl rfl)⟩
theorem Rd.argG {P : Program} {t : TypeId} {α : Type} {f : α → List AC} {ok : α → Prop} (h : ∀ m, Rd P t f ok m) {H : Type} {enc : TypeId × Value → H} {w : World} {base : Nat} {spare : Nat → Bool} {held : Bool} {vs : Array Value} {d : DataW H} {p : List MemPlace}
    (hT : DataW.Trod enc P w base spare held t (.agg vs) d p) : ∃ a, ok a ∧ RV (top w) w (.g (f a)) (.agg vs) := by
  obtain ⟨m, hm⟩ := hT
  obtain ⟨a, h1, h2⟩ := h m H enc w base spare held m _ _ (Nat.le_refl _) hm
  exact ⟨a, h1, .g _ _ (by have := h2.1; simpa [Value.cells] using this) (fun j c x a b => h2.2 j c x a (by simpa [Value.cells] using b))⟩
end Go.Proofs.YtbmgenifdlgbmaaGreat.D.Pm
namespace Go.Proofs.YtbmgenifdlgbmaaGreat.D.Pm
set_option linter.unusedVariables false
set_option linter.unusedSimpArgs false
open Go
/-- no block of cells -/
def NoCells (w : World) (r : Nat) : Prop := ∀ (cs : Array Value) (e : TypeId) (f : Nat × Nat), w.heap[r]? ≠ some (Obj.cells cs e f)
/-- what stands beside the machine -/
structure Side (r : Nat) (σ : Type) where
  E : σ → Gh → World → Prop
  ext : ∀ {s G w G' w'}, E s G w → Ext G w G' w' → E s G' w'
  base : ∀ {s G w c}, E s G w → c ≤ w.heap.size → E s (Gh.base G c) w
  sc : ∀ {s G w w'}, E s G w → SC w w' → w'.heap[r]? = w.heap[r]? → w.heap.size = w'.heap.size → E s G w'
  no : ∀ {s G w}, E s G w → G.X r ∧ NoCells w r ∧ w.heap[r]? ≠ some (.deferred (some []))
/-- what time may do, and the block r turns -/
structure ExtM (r : Nat) (G : Gh) (w : World) (G' : Gh) (w' : World) : Prop where
  size : w.heap.size ≤ w'.heap.size
  U : ∀ id, G.U id → G'.U id
  X : ∀ k, G.X k → G'.X k
  kept : ∀ k, G.X k → k ≠ r → w'.heap[k]? = w.heap[k]?
  live : ∀ id, G.U id → G'.b id = none ∨ G'.b id = G.b id
  shape : ∀ id g sz, G.U id → G'.b id = some (g, sz) → ∀ cs e, w.heap[g]? = some (.cells cs e (0, 0)) → ∃ cs', w'.heap[g]? = some (.cells cs' e (0, 0)) ∧ cs'.size = cs.size
  R : ∀ id, G.R id → G'.R id
  res : ∀ id, G.R id → G'.U id → G.U id
  out : w'.os = w.os ∧ w'.tape = w.tape ∧ w'.output = w.output
  B : G'.B = G.B
theorem ExtM.of {r : Nat} {G G' : Gh} {w w' : World} (x : Ext G w G' w') : ExtM r G w G' w' :=
  ⟨x.size, x.U, x.X, fun k h _ => x.kept k h, x.live, x.shape, x.R, x.res, x.out, x.B⟩
theorem ExtM.refl (r : Nat) (G : Gh) (w : World) : ExtM r G w G w := .of (.refl _ _)
theorem ExtM.trans {r : Nat} {G G1 G2 : Gh} {w w1 w2 : World} (h : ExtM r G w G1 w1) (h' : ExtM r G1 w1 G2 w2) : ExtM r G w G2 w2 where
  size := Nat.le_trans h.size h'.size
  U := fun id hi => h'.U id (h.U id hi)
  X := fun k hk => h'.X k (h.X k hk)
  kept := fun k hk hr => (h'.kept k (h.X k hk) hr).trans (h.kept k hk hr)
  live := fun id hi => by
    rcases h'.live id (h.U id hi) with h1 | h1
    · exact .inl h1
    · rcases h.live id hi with h2 | h2
      · exact .inl (h1.trans h2)
      · exact .inr (h1.trans h2)
  shape := fun id g sz hi hb cs e hc => by
    have h1 : G1.b id = some (g, sz) := by
      rcases h'.live id (h.U id hi) with h1 | h1
      · rw [h1] at hb; cases hb
      · rw [← h1]; exact hb
    obtain ⟨cs1, hc1, hs1⟩ := h.shape id g sz hi h1 cs e hc
    obtain ⟨cs2, hc2, hs2⟩ := h'.shape id g sz (h.U id hi) hb cs1 e hc1
    exact ⟨cs2, hc2, hs2.trans hs1⟩
  R := fun id hi => h'.R id (h.R id hi)
  res := fun id hi hu => h.res id hi (h'.res id (h.R id hi) hu)
  out := ⟨h'.out.1.trans h.out.1, h'.out.2.1.trans h.out.2.1, h'.out.2.2.trans h.out.2.2⟩
  B := h'.B.trans h.B
theorem ExtM.cell {r : Nat} {G G' : Gh} {w w' : World} (x : ExtM r G w G' w') (hr : NoCells w r) {a : Addr} {v : Value} (hX : G.X a.block) (hc : w.cell? a = some v) : w'.cell? a = some v := by
  by_cases h : a.block = r
  · exfalso
    unfold World.cell? at hc
    rw [h] at hc
    cases hk : w.heap[r]? with
    | none => rw [hk] at hc; cases hc
    | some o =>
      rw [hk] at hc
      cases o with
      | cells cs e f => exact hr cs e f hk
      | _ => cases hc
  · rw [cell_block (x.kept _ hX h)]; exact hc
theorem RC.extM {r : Nat} {G G' : Gh} {w w' : World} (x : ExtM r G w G' w') (hr : NoCells w r) {c : AC} {v : Value} (h : RC G w c v) : RC G' w' c v := by
  induction h with
  | v x h => exact .v x h
  | sl sz xs A len cap vs hl hc hm hs g o ha hcell h ih =>
    refine .sl sz xs A len cap vs hl hc hm hs g o (fun hp => ⟨(ha hp).1, x.X _ (ha hp).2⟩) (fun i cs j c h1 h2 => ?_) ih
    have hi : i < xs.length := (List.getElem?_eq_some_iff.1 h1).1
    exact x.cell hr (a := adr g _) (ha (by omega)).2 (hcell i cs j c h1 h2)
  | arr id off len A cap hn hc hm h =>
    refine .arr id off len A cap (x.U _ hn) hc hm (fun g sz hb => ?_)
    rcases x.live id hn with h1 | h1
    · rw [h1] at hb; cases hb
    · obtain ⟨cs, e, h2, h3, h4⟩ := h g sz (h1 ▸ hb)
      obtain ⟨cs', h5, h6⟩ := x.shape id g sz hn hb cs e h2
      exact ⟨cs', e, h5, h3, h6 ▸ h4⟩
  | ptr id off A hn h =>
    refine .ptr id off A (x.U _ hn) (fun g sz hb => ?_)
    rcases x.live id hn with h1 | h1
    · rw [h1] at hb; cases hb
    · exact h g sz (h1 ▸ hb)
  | pe id i j A hn h =>
    refine .pe id i j A (x.U _ hn) (fun g sz hb => ?_)
    rcases x.live id hn with h1 | h1
    · rw [h1] at hb; cases hb
    · exact h g sz (h1 ▸ hb)
  | ep cs g o vs hX hcell h ih => exact .ep cs g o vs (x.X _ hX) (fun j c h1 => x.cell hr (a := adr g _) hX (hcell j c h1)) ih
  | fn f caps vs hl cv hc h ih => exact .fn f caps vs hl cv hc ih
  | yd l => exact .yd l
theorem RV.extM {r : Nat} {G G' : Gh} {w w' : World} (x : ExtM r G w G' w') (hr : NoCells w r) {c : AV} {v : Value} (h : RV G w c v) : RV G' w' c v := by
  induction h with
  | c y v h => exact .c y v (h.extM x hr)
  | g cs vs hl h => exact .g cs vs hl (fun j c v h1 h2 => (h j c v h1 h2).extM x hr)
  | t xs vs hl h ih => exact .t xs vs hl ih
theorem Marks.extM {r : Nat} {G G' : Gh} {w w' : World} (x : ExtM r G w G' w') (hr : w.heap[r]? ≠ some (.deferred (some []))) : ∀ {l : List Deferred}, Marks G w l → Marks G' w' l
  | [], h => by
    have h : G.B ≤ w.heap.size := h
    show G'.B ≤ w'.heap.size
    rw [x.B]; exact Nat.le_trans h x.size
  | d :: ds, ⟨⟨D, h1, h2, h3, h4, h5⟩, h⟩ => ⟨⟨D, h1, x.B ▸ h2, x.X _ h3, (x.kept _ h3 (fun e => hr (e ▸ h4))).trans h4, h5⟩, Marks.extM x hr h⟩
theorem RE.extM {r N : Nat} {G G' : Gh} {w w' : World} (x : ExtM r G w G' w') (hr : NoCells w r) (hd : w.heap[r]? ≠ some (.deferred (some []))) {env : Env} {a : Act} (h : RE N G w env a) : RE N G' w' env a :=
  ⟨h.size, h.defers.extM x hd, fun t u hl => let ⟨v, h1, h2⟩ := h.at_ t u hl; ⟨v, h1, h2.extM x hr⟩⟩
/-- code beside something -/
structure PwE {σ : Type} {r : Nat} (S : Side r σ) {ρ : Option Nat} (P : Program) (N : Nat) (c : Code) (Q : Exit → Env → Sto → σ → Prop) (env : Env) (st : Sto) (s : σ) : Prop where
  mk ::
  out : ∀ G w a, Inv G w st → RE N G w env a → S.E s G w → c.wpIn (fen ρ) 7 P (fun e a' w' => ∃ G' env' st' s', Q e env' st' s' ∧ ExtM r G w G' w' ∧ Inv G' w' st' ∧ RE N G' w' env' a' ∧ S.E s' G' w') a w
section
variable {σ : Type} {r : Nat} {S : Side r σ} {ρ : Option Nat} {P : Program} {T : TT} {N : Nat} {Q : Exit → Env → Sto → σ → Prop} {env : Env} {st : Sto} {s : σ}
theorem PwE.pw {c : Code} (h : Pw (ρ := ρ) P N c (fun e env st => Q e env st s) env st) : PwE S (ρ := ρ) P N c Q env st s :=
  ⟨fun G w a hI hE hM => wpIn_mono (h.out G w a hI hE) fun e a' w' ⟨G', env', st', h1, h2, h3, h4⟩ => ⟨G', env', st', s, h1, .of h2, h3, h4, S.ext hM h2⟩⟩
theorem PwE.seq {x y : Code} (h : PwE S (ρ := ρ) P N x (fun e env st s => match e with | .normal => PwE S (ρ := ρ) P N y Q env st s | e => Q e env st s) env st s) : PwE S (ρ := ρ) P N (.seq x y) Q env st s := ⟨fun G w a hI hE hM => by
  refine wpIn_seq (wpIn_mono (h.out G w a hI hE hM) fun e a' w' ⟨G', env', st', s', h1, h2, h3, h4, h5⟩ => ?_)
  cases e with
  | normal => exact wpIn_mono (h1.out G' w' a' h3 h4 h5) fun e a2 w2 ⟨G2, e2, s2, k2, b1, b2, b3⟩ => ⟨G2, e2, s2, k2, b1, h2.trans b2, b3⟩
  | _ => exact ⟨G', env', st', s', h1, h2, h3, h4, h5⟩⟩
theorem PwE.block {id : Nat} {x : Code} (h : PwE S (ρ := ρ) P N x (fun e env st s => match e with | .exit i => if i = id then Q .normal env st s else Q (.exit i) env st s | e => Q e env st s) env st s) : PwE S (ρ := ρ) P N (.block id x) Q env st s := ⟨fun G w a hI hE hM => by
  refine wpIn_block (wpIn_mono (h.out G w a hI hE hM) fun e a' w' ⟨G', env', st', s', h1, h2⟩ => ?_)
  cases e with
  | exit i =>
    dsimp only at h1
    unfold Exit.inBlock
    by_cases hi : i = id
    · simp only [hi, if_true] at h1 ⊢; exact ⟨G', env', st', s', h1, h2⟩
    · simp only [hi, if_false] at h1 ⊢; exact ⟨G', env', st', s', h1, h2⟩
  | _ => exact ⟨G', env', st', s', h1, h2⟩⟩
theorem PwE.vw {c : Code} {env' : Env} {st' : Sto} (hv : Vw env st env' st') (h : PwE S (ρ := ρ) P N c Q env' st' s) : PwE S (ρ := ρ) P N c Q env st s := by
  obtain ⟨D, h1, h2⟩ := hv
  refine ⟨fun G w a hI hE hM => ?_⟩
  have x := Ext.frz G D st w
  exact wpIn_mono (h.out _ w a (hI.frz D h2) (EV.ok hI hE h1) (S.ext hM x)) fun e a' w' ⟨G', e', s', k', b1, b2, b3⟩ => ⟨G', e', s', k', b1, (ExtM.of x).trans b2, b3⟩
theorem PwE.mono {c : Code} {Q' : Exit → Env → Sto → σ → Prop} (h : PwE S (ρ := ρ) P N c Q env st s) (hq : ∀ e env st s, Q e env st s → Q' e env st s) : PwE S (ρ := ρ) P N c Q' env st s :=
  ⟨fun G w a hI hE hM => wpIn_mono (h.out G w a hI hE hM) fun e a' w' ⟨G', env', st', k', h1, h2⟩ => ⟨G', env', st', k', hq _ _ _ _ h1, h2⟩⟩
theorem PwE.cond {c : Operand} {x y : Code} {b : Bool} (hc : ev env c = some (.c (.v (.bool b)))) (h : PwE S (ρ := ρ) P N (if b then x else y) Q env st s) : PwE S (ρ := ρ) P N (.cond c x y) Q env st s := ⟨fun G w a hI hE hM => by
  have := (ev_ok hE hc).cel
  have e1 : a.eval c = .bool b := by generalize a.eval c = u at this; cases this; rfl
  refine wpIn_cond e1 ?_
  have := h.out G w a hI hE hM
  cases b <;> exact this⟩
theorem PwE.loop {τ : Type} (e : τ → Env) (s0 : τ → Sto) (κ : τ → σ) (I : τ → Prop) (μ : τ → Nat) {c : Code} (h0 : ∃ x, Vw env st (e x) (s0 x) ∧ κ x = s ∧ I x)
    (round : ∀ x, I x → PwE S (ρ := ρ) P N c (fun ex env' st' s' => match ex with | .normal => ∃ y, Vw env' st' (e y) (s0 y) ∧ κ y = s' ∧ I y ∧ μ y < μ x | ex => Q ex env' st' s') (e x) (s0 x) (κ x)) : PwE S (ρ := ρ) P N (.loop c) Q env st s := by
  obtain ⟨x, hv, rfl, hx⟩ := h0
  refine .vw hv ⟨fun G w a hI hE hM => ?_⟩
  have key : ∀ (n : Nat) (x : τ) (G1 : Gh) (w1 : World) (a1 : Act), μ x < n → I x → ExtM r G w G1 w1 → Inv G1 w1 (s0 x) → RE N G1 w1 (e x) a1 → S.E (κ x) G1 w1 →
      Code.roundsIn (fen ρ) 7 P c (fun e a' w' => ∃ G' env' st' s', Q e env' st' s' ∧ ExtM r G w G' w' ∧ Inv G' w' st' ∧ RE N G' w' env' a' ∧ S.E s' G' w') n a1 w1 := by
    intro n
    induction n with
    | zero => intro x G1 w1 a1 h; exact absurd h (Nat.not_lt_zero _)
    | succ n ih =>
      intro x G1 w1 a1 hm hx hX hI hE hM
      rw [roundsIn_succ]
      refine wpIn_mono ((round x hx).out G1 w1 a1 hI hE hM) fun ex a2 w2 ⟨G2, e2, s2, k2, h1, h2, h3, h4, h5⟩ => ?_
      cases ex with
      | normal =>
        obtain ⟨y, ⟨D, hv1, hv2⟩, rfl, hy, hlt⟩ := h1
        exact ih y _ w2 a2 (by omega) hy ((hX.trans h2).trans (.of (Ext.frz G2 D s2 w2))) (h3.frz D hv2) (EV.ok h3 h4 hv1) (S.ext h5 (Ext.frz G2 D s2 w2))
      | _ => exact ⟨G2, e2, s2, k2, h1, hX.trans h2, h3, h4, h5⟩
  exact wpIn_loop_rounds (μ x + 1) (key _ x G w a (Nat.lt_succ_self _) hx (.refl _ _ _) hI hE hM)
/-- an operation beside something -/
def OpOkE {r : Nat} (S : Side r σ) (ρ : Option Nat) (P : Program) (N : Nat) (o : Oper) (env : Env) (st : Sto) (s : σ) (K : Env → Sto → σ → Prop) : Prop :=
  ∀ G w a, Inv G w st → RE N G w env a → S.E s G w → ∀ Q, o.wpIn (fen ρ) 7 P a w (fun a' w' => ∃ G' env' st' s', K env' st' s' ∧ ExtM r G w G' w' ∧ Inv G' w' st' ∧ RE N G' w' env' a' ∧ S.E s' G' w') Q
def vopsE (P : Program) (T : TT) (N : Nat) (sp : Oper → Env → Sto → σ → (Env → Sto → σ → Prop) → Prop) (ops : Array Oper) : List Oper → Env → Sto → σ → (Env → Sto → σ → Prop) → Prop
  | [], env, st, s, Q => Q env st s
  | o :: l, env, st, s, Q => (o.guard = none ∧ sp o env st s fun env st s => vopsE P T N sp ops l env st s Q) ∨ vgo P T N [] ops o env st fun env st => vopsE P T N sp ops l env st s Q
theorem vgo_ok (TP : TOk P T) {S : List Nat} {ops : Array Oper} {o : Oper} {K : Env → Sto → Prop} (h : vgo P T N S ops o env st K) {G : Gh} {w : World} {a : Act} (hI : Inv G w st) (hE : RE N G w env a) {k : Nat} (hko : ops[k]? = some o) {Q : Exit → Act → World → Prop} :
    wpOpIn (fen ρ) 7 P ops Q k (fun a' w' => ∃ G' env' st', K env' st' ∧ Ext G w G' w' ∧ Inv G' w' st' ∧ RE N G' w' env' a') a w := by
  unfold wpOpIn
  rw [hko]
  dsimp only
  unfold vgo at h
  have put0 : RE N G w (put N env o.dst (.t [])) (a.put o.dst undef) := hE.put (.t [] _ rfl (fun j x v h _ => by simp at h)) _
  cases hg : o.guard with
  | none =>
    rw [hg] at h
    have hw : Region.wanted o (yielded ops a.tmps) = true := by simp [Region.wanted, hg]
    rw [if_pos hw]
    exact vopF_ok TP h ρ G w a hI hE _
  | some jw =>
    obtain ⟨j, want⟩ := jw
    rw [hg] at h
    dsimp only at h
    obtain ⟨d, h1, h⟩ := onO_iff.1 h
    obtain ⟨r, h2, h⟩ := onO_iff.1 h
    obtain ⟨v, h3, h4⟩ := hE.at_ _ _ h2
    rcases onG_ok h with ⟨⟨l, rfl⟩, hA⟩ | ⟨b, rfl, hh⟩
    · have hv : ∃ vs, v = .tuple vs := by cases h4; exact ⟨_, rfl⟩
      obtain ⟨vs, rfl⟩ := hv
      have hy : yielded ops a.tmps j = none := by simp [yielded, h1, h3]
      have hw : ¬ (Region.wanted o (yielded ops a.tmps) = true) := by simp [Region.wanted, hg, hy]
      rw [if_neg hw]
      exact ⟨fun _ _ => trivial, G, _, _, hA, Ext.refl _ _, hI, put0⟩
    clear h
    have hv : v = .bool b := by have := h4.cel; cases this; rfl
    subst hv
    have hy : yielded ops a.tmps j = some b := by simp [yielded, h1, h3]
    have hw : Region.wanted o (yielded ops a.tmps) = (b == want) := by simp [Region.wanted, hg, hy]
    rw [hw]
    by_cases hb : b = want
    · rw [if_pos hb] at hh
      rw [if_pos (by simp [hb])]
      exact vopF_ok TP hh ρ G w a hI hE _
    · rw [if_neg hb] at hh
      rw [if_neg (by simp [hb])]
      exact ⟨fun _ _ => trivial, G, _, _, hh, Ext.refl _ _, hI, put0⟩
theorem vopsE_ok (TP : TOk P T) {sp : Oper → Env → Sto → σ → (Env → Sto → σ → Prop) → Prop} (hsp : ∀ o env st s K, sp o env st s K → OpOkE S ρ P N o env st s K) {ops : Array Oper} {Q : Env → Sto → σ → Prop} {G0 : Gh} {w0 : World} :
    ∀ (l : List Oper) (k : Nat), ops.toList.drop k = l → ∀ {env : Env} {st : Sto} {s : σ}, vopsE P T N sp ops l env st s Q → ∀ G w a, ExtM r G0 w0 G w → Inv G w st → RE N G w env a → S.E s G w →
    wpOpsIn (fen ρ) 7 P ops (fun e a' w' => ∃ G' env' st' s', e = .normal ∧ Q env' st' s' ∧ ExtM r G0 w0 G' w' ∧ Inv G' w' st' ∧ RE N G' w' env' a' ∧ S.E s' G' w') (List.range' k l.length) a w
  | [], k, hk, env, st, s, h, G, w, a, hX, hI, hE, hM => ⟨G, env, st, s, rfl, h, hX, hI, hE, hM⟩
  | o :: l, k, hk, env, st, s, h, G, w, a, hX, hI, hE, hM => by
    have hko : ops[k]? = some o := by
      have := congrArg (·[0]?) hk
      simpa [List.getElem?_drop] using this
    have hk' : ops.toList.drop (k + 1) = l := by rw [← List.drop_drop, hk]; rfl
    rw [List.length_cons, List.range'_succ, wpOpsIn_cons]
    rcases h with ⟨hg, h⟩ | h
    · unfold wpOpIn
      rw [hko]
      dsimp only
      have hw : Region.wanted o (yielded ops a.tmps) = true := by simp [Region.wanted, hg]
      rw [if_pos hw]
      refine Oper.wpIn_mono ?_ (hsp _ _ _ _ _ h G w a hI hE hM _)
      rintro a' w' ⟨G', env', st', s', h1, h2, h3, h4, h5⟩
      exact vopsE_ok TP hsp l (k + 1) hk' h1 G' w' a' (hX.trans h2) h3 h4 h5
    · refine wpOpIn_q (fun _ _ _ h => h) ?_ (vgo_ok TP h hI hE hko)
      rintro a' w' ⟨G', env', st', h1, h2, h3, h4⟩
      exact vopsE_ok TP hsp l (k + 1) hk' h1 G' w' a' (hX.trans (.of h2)) h3 h4 (S.ext hM h2)
theorem PwE.region (TP : TOk P T) {sp : Oper → Env → Sto → σ → (Env → Sto → σ → Prop) → Prop} (hsp : ∀ o env st s K, sp o env st s K → OpOkE S ρ P N o env st s K) {id : Nat} {ops : Array Oper} (h : vopsE P T N sp ops ops.toList env st s (Q .normal)) : PwE S (ρ := ρ) P N (.region id ops false) Q env st s := ⟨fun G w a hI hE hM => by
  refine wpIn_region (?_ : wpOpsIn (fen ρ) 7 P ops _ (List.range ops.size) a w)
  have := vopsE_ok TP hsp (G0 := G) (w0 := w) ops.toList 0 rfl h G w a (.refl _ _ _) hI hE hM
  have e : List.range ops.size = List.range' 0 ops.toList.length := by rw [List.range_eq_range', Array.length_toList]
  rw [e]
  exact wpOpsIn_q (fun e a w ⟨G', env', st', s', he, h1⟩ => ⟨G', env', st', s', he ▸ h1⟩) _ _ _ this⟩
end
end Go.Proofs.YtbmgenifdlgbmaaGreat.D.Pm
namespace Go.Proofs.YtbmgenifdlgbmaaGreat.D.Pm
set_option linter.unusedVariables false
set_option linter.unusedSimpArgs false
open Go
variable {P : Program} {T : TT} {N : Nat}
theorem wpIn_fen {ρ : Option Nat} {n m : Nat} {c : Code} {Q : Exit → Act → World → Prop} {a : Act} {w : World} (h : c.wpIn (fen ρ) n P Q a w) : c.wpIn (fen ρ) m P Q a w := fun b k cs hro hb _ => h b k cs hro hb (room_fen _)
theorem inRound_fen {ρ : Option Nat} (l : Nat) : (fen ρ).inRound l = fen (some l) := rfl
/-- a call of yield: what Y says of it -/
structure YieldOk {σ : Type} {l : Nat} (S : Side l σ) (P : Program) (Y : σ → Sto → List AV → (Bool → σ → Sto → Prop) → Prop) : Prop where
  mk ::
  mono : ∀ {s st xs} {K K' : Bool → σ → Sto → Prop}, (∀ b s' st', K b s' st' → K' b s' st') → Y s st xs K → Y s st xs K'
  out : ∀ s st xs K, Y s st xs K → ∀ G w (vs : Array Value), Inv G w st → RVs G w xs vs → S.E s G w →
    ∃ f tmps assign body, (Instr.yield l vs).run P w = .ok (.round l f tmps assign body) w ∧
      RoundIn (fen none) 6 P l f tmps assign body w fun e w' => ∃ b G' s' st', e = .returned (.bool b) ∧ K b s' st' ∧ ExtM l G w G' w' ∧ Inv G' w' st' ∧ S.E s' G' w'
/-- the operation that calls yield -/
def spY {σ : Type} (l N : Nat) (Y : σ → Sto → List AV → (Bool → σ → Sto → Prop) → Prop) (o : Oper) (env : Env) (st : Sto) (s : σ) (K : Env → Sto → σ → Prop) : Prop :=
  ∃ y xs ats rs, o.op = .call { callee := .value y, args := xs, argTypes := ats } ∧ ev env y = some (.c (.yd l)) ∧ evs env xs.toList = some rs ∧ Y s st rs fun b s' st' => K (put N env o.dst (vB b)) st' s'
theorem spY_ok {σ : Type} {l : Nat} {S : Side l σ} {Y : σ → Sto → List AV → (Bool → σ → Sto → Prop) → Prop} (hY : YieldOk S P Y) : ∀ o env st s K, spY l N Y o env st s K → OpOkE S none P N o env st s K := by
  rintro o env st s K ⟨y, xs, ats, rs, ho, hy, hxs, h⟩ G w a hI hE hM Q
  have has := evs_ok hE hxs
  obtain ⟨f, tmps, assign, body, h1, h2⟩ := hY.out s st rs _ h G w (xs.map a.eval) hI (by simpa using has) hM
  have e1 : a.eval y = .func (.yield l) #[] #[] := by
    have := (ev_ok hE hy).cel
    generalize a.eval y = u at this
    cases this; rfl
  have hrun : (execOp a.eval o).run P w = .ok (.round l f tmps assign body) w := by
    obtain ⟨dst, op, ty, pos, after, guard⟩ := o
    dsimp only at ho
    subst ho
    simp [execOp, resolve, e1, Deferred.ofValue, invoke, h1]
  refine ⟨fun _ _ => trivial, ?_⟩
  rw [sem_fen hrun (fun d e => by cases e), Oper.uponIn_round]
  refine ⟨fun h => (by cases h), h2.mono ?_⟩
  rintro e w' ⟨b, G', s', st', rfl, k1, k2, k3, k4⟩
  obtain ⟨q1, q2, q3⟩ := S.no hM
  exact ⟨G', _, st', s', k1, k2, k3, (hE.extM k2 q2 q3).put (RV.one _ rfl) _, k4⟩
/-- a function that gives its values to yield -/
structure DoesE {σ : Type} {l : Nat} (S : Side l σ) (P : Program) (f : FuncId) (as : List AV) (st : Sto) (s : σ) (K : Sto → σ → Prop) : Prop where
  mk ::
  fn : ∃ fn c, P.funcs[f]? = some fn ∧ fn.body = some c ∧ (fn.name == "runtime.NumGoroutine") = false
  out : ∀ G w vs, Inv G w st → RVs G w as vs → S.E s G w → G.B ≤ w.heap.size → Calls P f vs w fun e w' => ∃ G' st' s' v, K st' s' ∧ e = .returned v ∧ ExtM l G w G' w' ∧ Inv G' w' st' ∧ S.E s' G' w'
theorem DoesE.of (TP : TOk P T) {σ : Type} {l : Nat} {S : Side l σ} {f : FuncId} {fn : Func} {c : Code} {as : List AV} {st : Sto} {s : σ} {K : Sto → σ → Prop} (hf : P.funcs[f]? = some fn) (hb : fn.body = some c) (hn : (fn.name == "runtime.NumGoroutine") = false) (hr : fn.results = #[]) (hN : as.length ≤ fn.ntmps)
    (h : PwE S (ρ := none) P fn.ntmps c (fun e env st s => match e with | .normal => K st s | .ret => K st s | _ => False) (params 0 as) st s) : DoesE S P f as st s K := by
  refine ⟨⟨fn, c, hf, hb, hn⟩, fun G w vs hI hv hM hB => callsIn_fen.1 (callsIn_of_wp_marks (F := fen none) (n := 7) hf hb trivial ?_)⟩
  have hE : RE fn.ntmps (G.base w.heap.size) w (params 0 as) { tmps := vs ++ Array.replicate (fn.ntmps - vs.size) undef, defers := [] } := by
    refine ⟨by simp [hv.1]; omega, Nat.le_refl _, params_ok as 0 _ fun j r hj => ?_⟩
    have hlt : j < vs.size := by rw [hv.1]; exact (List.getElem?_eq_some_iff.1 hj).1
    refine ⟨vs[j], ?_, (hv.2 j r _ hj (Array.getElem?_eq_getElem hlt)).exts (base_exts G w _)⟩
    rw [Nat.zero_add, Array.getElem?_append_left hlt, Array.getElem?_eq_getElem hlt]
  obtain ⟨q1, q2, q3⟩ := S.no hM
  have hll := hI.X _ q1
  refine wpIn_mono (h.out _ w _ (hI.base _) hE (S.base hM (Nat.le_refl _))) fun e a' w' ⟨G', env', st', s', h1, h2, h3, h4, h5⟩ => ?_
  have fin : K st' s' → LeavesInM (fen none) 7 P fn a'.tmps (fun e w' => ∃ G' st' s' v, K st' s' ∧ e = .returned v ∧ ExtM l G w G' w' ∧ Inv G' w' st' ∧ S.E s' G' w') a'.defers .returning w' := by
    intro hK
    refine leaves_marks h4.defers fun w2 ⟨k1, k2, k3, k4⟩ => ?_
    have i3 := h3.sc k3 (Nat.le_of_eq k1.symm)
    have hge : ∀ d ∈ a'.defers, ∀ k, d.target = .collected k → w.heap.size ≤ k := fun d hd k hk => by
      have := h4.defers.ge d hd k hk
      rw [h2.B] at this
      exact this
    have hl2 : w2.heap[l]? = w'.heap[l]? := k4 l (fun d hd ht => by have := hge d hd l ht; omega)
    have hre : (results fn a'.tmps).run P w2 = .ok (.tuple #[]) w2 := by
      have := results_eq (P := P) (fn := fn) (tmps := a'.tmps) (w := w2) (vs := []) (by rw [hr]; rfl)
      simpa using this
    have hx : ExtM l G w (G'.base G.B) w2 := by
      refine ⟨by rw [k1]; exact h2.size, fun i hi => h2.U i hi, fun k hk => h2.X k hk, fun k hk hne => ?_, fun i hi => h2.live i hi, fun i g sz hi hb2 cs e hc => ?_, fun i hi => h2.R i hi, fun i hi hu => h2.res i hi hu, ⟨k2.1.trans h2.out.1, k2.2.1.trans h2.out.2.1, k2.2.2.trans h2.out.2.2⟩, rfl⟩
      · have hlt := hI.X k hk
        rw [k4 k (fun d hd ht => by have := hge d hd k ht; omega)]
        exact h2.kept k hk hne
      · obtain ⟨cs', q1, q2⟩ := h2.shape i g sz hi hb2 cs e hc
        exact ⟨cs', k3 _ _ _ _ q1, q2⟩
    exact ⟨_, hre, _, st', s', _, hK, rfl, hx, i3.base _, S.base (S.sc h5 k3 hl2 k1.symm) (Nat.le_trans hB hx.size)⟩
  cases e with
  | normal => exact fin h1
  | ret => exact fin h1
  | _ => exact h1.elim
/-- what goes to yield, one after another, up to the first time that yield says no -/
def runY {σ : Type} (Y : σ → Sto → List AV → (Bool → σ → Sto → Prop) → Prop) : List (List AV) → σ → Sto → (Sto → σ → Prop) → Prop
  | [], s, st, K => K st s
  | x :: xs, s, st, K => Y s st x fun b s' st' => if b = true then runY Y xs s' st' K else K st' s'
/-- an iterator: its values -/
def Iter (P : Program) (f : FuncId) (caps : List AC) (items : List (List AV)) : Prop :=
  ∀ {σ : Type} {l : Nat} {S : Side l σ} {Y : σ → Sto → List AV → (Bool → σ → Sto → Prop) → Prop}, YieldOk S P Y → ∀ {s st} {K : Sto → σ → Prop}, runY Y items s st K → DoesE S P f (.c (.yd l) :: caps.map .c) st s K
/-! ### the loop -/
def putps (N : Nat) : List Tmp → List AV → Env → Env
  | p :: ps, x :: xs, env => putps N ps xs (put N env (some p) x)
  | _, _, env => env
theorem putps_ok {G : Gh} {w : World} : ∀ (ps : List Tmp) (xs : List AV) (vs : List Value) (env : Env) (tmps : Array Value), xs.length = vs.length → (∀ (j : Nat) r v, xs[j]? = some r → vs[j]? = some v → RV G w r v) → RE N G w env { tmps := tmps, defers := [] } →
    RE N G w (putps N ps xs env) { tmps := (ps.zip vs).foldl (fun t (p, v) => t.setIfInBounds p v) tmps, defers := [] }
  | [], xs, vs, env, tmps, hl, h, hE => by cases xs <;> exact hE
  | p :: ps, [], [], env, tmps, hl, h, hE => hE
  | p :: ps, x :: xs, v :: vs, env, tmps, hl, h, hE => by
    have := hE.put (h 0 x v rfl rfl) (some p)
    exact putps_ok ps xs vs _ _ (by simpa using hl) (fun j r v h1 h2 => h (j + 1) r v h1 h2) this
def jumpQ (Q : Exit → Env → Sto → Prop) (env : Env) (st : Sto) : Option Code → Prop
  | none => Q .normal env st
  | some .ret => Q .ret env st
  | some (.exit i) => Q (.exit i) env st
  | some (.goto t) => Q (.goto t) env st
  | _ => False
/-- the rounds of a loop -/
def rounds (P : Program) (N l : Nat) (ps : List Tmp) (assign body : Code) (Q : Exit → Env → Sto → Prop) (env : Env) : List (List AV) → Sto → Prop
  | [], st => Q .normal env st
  | x :: xs, st => x.length = ps.length ∧ Pw (ρ := some l) P N assign (fun e env1 st1 => e = .normal ∧ Pw (ρ := some l) P N body (fun e _ st' => match e with
      | .normal => rounds P N l ps assign body Q env xs st'
      | .ret => Q .ret env st'
      | .exit i => Q (.exit i) env st'
      | .goto t => Q (.goto t) env st'
      | _ => False) env1 st1) (putps N ps x env) st
/-- what the loop says of yield -/
def Yo (P : Program) (N l : Nat) (ps : List Tmp) (assign body : Code) (env : Env) (s : Option Code) (st : Sto) (x : List AV) (K : Bool → Option Code → Sto → Prop) : Prop :=
  s = none ∧ x.length = ps.length ∧ Pw (ρ := some l) P N assign (fun e env1 st1 => e = .normal ∧ Pw (ρ := some l) P N body (fun e _ st' => match e with
      | .normal => K true none st'
      | .ret => K false (some .ret) st'
      | .exit i => K false (some (.exit i)) st'
      | .goto t => K false (some (.goto t)) st'
      | _ => False) env1 st1) (putps N ps x env) st
theorem rounds_run {l : Nat} {ps : List Tmp} {assign body : Code} {Q : Exit → Env → Sto → Prop} {env : Env} : ∀ {items : List (List AV)} {st : Sto}, rounds P N l ps assign body Q env items st → runY (Yo P N l ps assign body env) items none st (fun st s => jumpQ Q env st s)
  | [], st, h => h
  | x :: xs, st, ⟨h1, h2⟩ => ⟨rfl, h1, h2.mono fun e env1 st1 ⟨he, h3⟩ => ⟨he, h3.mono fun e env2 st2 h4 => by
      cases e with
      | normal => show if true = true then _ else _; rw [if_pos rfl]; exact rounds_run h4
      | ret => show if false = true then _ else _; rw [if_neg (by simp)]; exact h4
      | exit i => show if false = true then _ else _; rw [if_neg (by simp)]; exact h4
      | goto t => show if false = true then _ else _; rw [if_neg (by simp)]; exact h4
      | _ => exact h4⟩⟩
/-- the loop's record, beside the iterator -/
def lside (N l : Nat) (env : Env) (tmps : Array Value) (rec : LoopState → Option Code → Loop) : Side l (Option Code) where
  E := fun s G w => G.X l ∧ w.heap[l]? = some (.loop (rec (if s.isNone then .ready else .done) s)) ∧ RE N G w env { tmps := tmps, defers := [] }
  ext := fun ⟨h1, h2, h3⟩ x => ⟨x.X _ h1, (x.kept _ h1).trans h2, h3.ext x⟩
  base := fun {s G w c} ⟨h1, h2, h3⟩ hc => ⟨h1, h2, ⟨h3.size, hc, fun t r hl => let ⟨v, a, b⟩ := h3.at_ t r hl; ⟨v, a, b.exts (base_exts G w c)⟩⟩⟩
  sc := fun {s G w w'} ⟨h1, h2, h3⟩ x hl hs => ⟨h1, hl.trans h2, ⟨h3.size, Nat.le_trans h3.defers.B (Nat.le_of_eq hs), fun t r hl => let ⟨v, a, b⟩ := h3.at_ t r hl; ⟨v, a, b.sc x⟩⟩⟩
  no := fun {s G w} h => ⟨h.1, (fun cs e f hc => by rw [h.2.1] at hc; cases hc), (fun hc => by rw [h.2.1] at hc; cases hc)⟩
theorem putObj_sc {w : World} {l : Nat} {o o' : Obj} (h : w.heap[l]? = some o) (hn : ∀ (cs : Array Value) (e : TypeId) (f : Nat × Nat), o ≠ .cells cs e f) : SC w (w.putObj l o') := fun k cs e f hk => by
  rw [World.putObj_heap_other (fun e => by subst e; rw [h] at hk; cases hk; exact hn _ _ _ rfl)]; exact hk
theorem putObj_extM {G : Gh} {w : World} {l : Nat} {o o' : Obj} (h : w.heap[l]? = some o) (hn : ∀ (cs : Array Value) (e : TypeId) (f : Nat × Nat), o ≠ .cells cs e f) : ExtM l G w G (w.putObj l o') :=
  ⟨Nat.le_of_eq (World.putObj_size).symm, fun _ h => h, fun _ h => h, fun k hk hne => World.putObj_heap_other hne, fun _ _ => .inr rfl, fun _ _ _ _ _ cs e hc => ⟨cs, putObj_sc h hn _ _ _ _ hc, rfl⟩, fun _ h => h, fun _ _ h => h, ⟨rfl, rfl, rfl⟩, rfl⟩
theorem lside_ok {l : Nat} {env : Env} {tmps : Array Value} {fn : FuncId} {ps : Array Tmp} {assign body : Code} {D : Nat} :
    YieldOk (lside N l env tmps (fun st pe => { state := st, pending := pe, fn, tmps, params := ps, assign, body, defers := D })) P (Yo P N l ps.toList assign body env) := by
  refine ⟨fun hk ⟨h1, h2, h3⟩ => ⟨h1, h2, h3.mono fun e env1 st1 ⟨he, h4⟩ => ⟨he, h4.mono fun e env2 st2 h5 => ?_⟩⟩, ?_⟩
  · cases e <;> first | exact hk _ _ _ h5 | exact h5
  rintro s st xs K ⟨rfl, hlen, h⟩ G w vs hI hv ⟨hX, hL, hE⟩
  have hnl : ∀ (r : Loop) (cs : Array Value) (e : TypeId) (f : Nat × Nat), Obj.loop r ≠ .cells cs e f := fun _ _ _ _ h => by cases h
  refine ⟨fn, _, assign, body, run_yield hL (by rw [hv.1, hlen, Array.length_toList]), roundIn_of_wpIn trivial ?_⟩
  have hz : (ps.zip vs).foldl (fun t (p, v) => t.setIfInBounds p v) tmps = (ps.toList.zip vs.toList).foldl (fun t (p, v) => t.setIfInBounds p v) tmps := by
    rw [← Array.foldl_toList, Array.toList_zip]
  have hE1 : RE N G w (putps N ps.toList xs env) { tmps := (ps.zip vs).foldl (fun t (p, v) => t.setIfInBounds p v) tmps, defers := [] } := by
    rw [hz]
    exact putps_ok ps.toList xs vs.toList env tmps (by have := hv.1; simp; omega) (fun j r v a b => hv.2 j r v a (by rw [← Array.getElem?_toList]; exact b)) hE
  refine wpIn_mono (wpIn_fen (h.out G w _ hI hE1)) fun e a1 w1 ⟨G1, env1, st1, ⟨he, hb⟩, x1, i1, e1⟩ => ?_
  subst he
  have hX1 := x1.X _ hX
  have hL1 := (x1.kept _ hX).trans hL
  refine ⟨_, run_beginRound hL1 rfl, ?_⟩
  obtain ⟨w2, hw2⟩ : ∃ w2, w1.putObj l (.loop { state := .busy, pending := none, fn, tmps, params := ps, assign, body, defers := D }) = w2 := ⟨_, rfl⟩
  have hlt : l < w1.heap.size := (Array.getElem?_eq_some_iff.1 hL1).1
  have x2 : ExtM l G1 w1 G1 w2 := by rw [← hw2]; exact putObj_extM hL1 (hnl _)
  have s2 : SC w1 w2 := by rw [← hw2]; exact putObj_sc hL1 (hnl _)
  have hL2 : w2.heap[l]? = some (.loop { state := .busy, pending := none, fn, tmps, params := ps, assign, body, defers := D }) := by rw [← hw2]; exact World.putObj_heap_same hlt
  have no1 : NoCells w1 l := fun cs e f hc => by rw [hL1] at hc; cases hc
  have i2 := i1.sc s2 (by rw [← hw2]; exact Nat.le_of_eq World.putObj_size.symm)
  have e2 := e1.extM x2 no1 (fun hc => by rw [hL1] at hc; cases hc)
  have o2 := (hE.ext x1).extM x2 no1 (fun hc => by rw [hL1] at hc; cases hc)
  show body.wpIn (fen (some l)) 6 P (roundPost P l _) a1 (w1.putObj l (.loop { state := .busy, pending := none, fn, tmps, params := ps, assign, body, defers := D }))
  rw [hw2]
  refine wpIn_mono (wpIn_fen (hb.out G1 w2 a1 i2 e2)) fun e a3 w3 ⟨G3, env3, st3, hq, x3, i3, e3⟩ => ?_
  have hL3 := (x3.kept _ hX1).trans hL2
  have hlt3 : l < w3.heap.size := (Array.getElem?_eq_some_iff.1 hL3).1
  have o3 := o2.ext x3
  have done : ∀ (j : Option Code), K j.isNone j st3 → ∃ v w', (Instr.endRound l j).run P w3 = .ok v w' ∧ ∃ b G' s' st', Ending.returned v = .returned (.bool b) ∧ K b s' st' ∧ ExtM l G w G' w' ∧ Inv G' w' st' ∧ (lside N l env tmps (fun st pe => { state := st, pending := pe, fn, tmps, params := ps, assign, body, defers := D })).E s' G' w' := by
    intro j hK
    have x4 : ∀ o', ExtM l G3 w3 G3 (w3.putObj l o') := fun o' => putObj_extM hL3 (hnl _)
    have no3 : NoCells w3 l := fun cs e f hc => by rw [hL3] at hc; cases hc
    refine ⟨_, _, run_endRound j hL3, j.isNone, G3, j, st3, rfl, hK, ((((ExtM.of x1).trans x2).trans (.of x3)).trans (x4 _)), i3.sc (putObj_sc hL3 (hnl _)) (Nat.le_of_eq World.putObj_size.symm), x3.X _ hX1, World.putObj_heap_same hlt3, o3.extM (x4 _) no3 (fun hc => by rw [hL3] at hc; cases hc)⟩
  cases e with
  | normal => exact done none hq
  | ret => exact done (some .ret) hq
  | exit i => exact done (some (.exit i)) hq
  | goto t => exact done (some (.goto t)) hq
  | _ => exact hq.elim
end Go.Proofs.YtbmgenifdlgbmaaGreat.D.Pm
namespace Go.Proofs.YtbmgenifdlgbmaaGreat.D.Pm
set_option linter.unusedVariables false
set_option linter.unusedSimpArgs false
open Go
open Go.RowKit
variable {P : Program} {T : TT} {N : Nat}
/-- two blocks more: they no longer belong to anyone -/
def Gh.lay (G : Gh) (a b : Nat) : Gh := ⟨G.U, G.R, G.b, fun k => G.X k ∨ k = a ∨ k = b, G.B⟩
theorem Inv.lay {G : Gh} {w w' : World} {st : Sto} (hI : Inv G w st) (hs : w'.heap.size = w.heap.size + 2) (hk : ∀ k, k < w.heap.size → w'.heap[k]? = w.heap[k]?) (ho : w'.os = w.os ∧ w'.tape = w.tape ∧ w'.output = w.output) :
    Ext G w (G.lay w.heap.size (w.heap.size + 1)) w' ∧ Inv (G.lay w.heap.size (w.heap.size + 1)) w' st := by
  have x : Ext G w (G.lay w.heap.size (w.heap.size + 1)) w' := ⟨⟨by omega, fun _ h => h, fun _ h => .inl h, fun k h => hk k (hI.X k h), fun _ _ => .inr rfl, fun i g z hi hb cs e hc => ⟨cs, by rw [hk g (Array.getElem?_eq_some_iff.1 hc).1]; exact hc, rfl⟩⟩, fun _ h => h, fun _ _ h => h, ho, rfl⟩
  refine ⟨x, fun i o ho => ?_, fun i g sz hb => ?_, hI.inj, fun k h => ?_, hI.new⟩
  · obtain ⟨g, sz, cs, e, a, b, c, d, f, k⟩ := hI.obj i o ho
    exact ⟨g, sz, cs, e, a, b, by rw [hk g (Array.getElem?_eq_some_iff.1 c).1]; exact c, d, f, fun j x' v p q => (k j x' v p q).ext x⟩
  · obtain ⟨a, b, c⟩ := hI.lt i g sz hb
    exact ⟨a, by omega, fun hX => by rcases hX with hX | hX | hX; exact c hX; all_goals omega⟩
  · rcases h with h | h | h
    · have := hI.X k h; omega
    · omega
    · omega
/-- **a range over a function** -/
theorem Pw.rangeFunc {g : Operand} {ps : Array Tmp} {assign body : Code} {f : FuncId} {caps : List AC} {items : List (List AV)} {Q : Exit → Env → Sto → Prop} {env : Env} {st : Sto} (hg : ev env g = some (.c (.fn f caps))) (hit : Iter P f caps items)
    (h : ∀ l, rounds P N l ps.toList assign body Q env items st) : Pw (ρ := none) P N (.rangeFunc g ps assign body) Q env st := ⟨fun G w a hI hE => by
  refine wpIn_rangeFunc fun fn _ => ?_
  obtain ⟨rec, hrec⟩ : ∃ rec : LoopState → Option Code → Loop, rec = fun st pe => { state := st, pending := pe, fn, tmps := a.tmps, params := ps, assign, body, defers := w.heap.size } := ⟨_, rfl⟩
  obtain ⟨W1, hW1⟩ : ∃ W1, (w.alloc (.deferred (some []))).alloc (.loop (rec .ready none)) = W1 := ⟨_, rfl⟩
  have hold : ∀ k, k < w.heap.size → W1.heap[k]? = w.heap[k]? := fun k hk => by
    rw [← hW1]; exact (Below.heap_alloc _ _ k (by simp; omega)).trans (Below.heap_alloc _ _ k hk)
  have hs1 : W1.heap.size = w.heap.size + 2 := by rw [← hW1]; simp
  have hL1 : W1.heap[w.heap.size + 1]? = some (.loop (rec .ready none)) := by
    rw [← hW1]; have := heap_alloc_new (w.alloc (.deferred (some []))) (.loop (rec .ready none)); simpa using this
  have hD1 : W1.heap[w.heap.size]? = some (.deferred (some [])) := by
    rw [← hW1]; exact (Below.heap_alloc _ _ _ (by simp)).trans (heap_alloc_new w _)
  obtain ⟨x1, i1⟩ := hI.lay hs1 hold (by rw [← hW1]; exact ⟨rfl, rfl, rfl⟩)
  have hcv := (ev_ok hE hg).cel
  generalize hv : a.eval g = u at hcv
  cases hcv with
  | fn _ _ vs hl cv hc hcr =>
    have hM1 : (lside N (w.heap.size + 1) env a.tmps rec).E none (G.lay w.heap.size (w.heap.size + 1)) W1 := ⟨.inr (.inr rfl), hL1, ⟨hE.size, by
      have := hE.defers.B
      show G.B ≤ W1.heap.size
      omega, (hE.ext x1).at_⟩⟩
    have hd := hit (S := lside N (w.heap.size + 1) env a.tmps rec) (Y := Yo P N (w.heap.size + 1) ps.toList assign body env) (by rw [hrec]; exact lside_ok) (rounds_run (h (w.heap.size + 1)))
    obtain ⟨fn', code, hf1, hf2, hf3⟩ := hd.fn
    refine ⟨w.heap.size + 1, [{ target := .collected w.heap.size, args := #[] }], W1, { target := .fn (.func f) vs, args := #[.func (.yield (w.heap.size + 1)) #[] #[]] }, W1, f,
      #[.func (.yield (w.heap.size + 1)) #[] #[]] ++ vs, W1, ?_, ?_, fun _ _ => trivial, ?_, fun h => (by cases h), ?_⟩
    · rw [← hW1, hrec]; exact run_enterLoop_outer _ _ _ _ _
    · simp only [resolve, hv]
      simp [go_sem]
    · have hf4 : ¬ fn'.name = "runtime.NumGoroutine" := by simpa using hf3
      simp [invoke, callFunc, hf1, hf2, hf4]
    · refine callsIn_fen.2 ((hd.out _ W1 _ i1 ⟨by simp [hl]; omega, fun j r v hj hvj => ?_⟩ hM1 ?_).mono ?_)
      · match j with
        | 0 =>
          simp at hj
          rw [Array.getElem?_append_left (by simp)] at hvj
          simp at hvj
          subst hj; subst hvj
          exact .c _ _ (.yd _)
        | j + 1 =>
          rw [Array.getElem?_append_right (by simp)] at hvj
          simp at hvj
          rw [List.getElem?_cons_succ, List.getElem?_map] at hj
          cases hcj : caps[j]? with
          | none => rw [hcj] at hj; cases hj
          | some c =>
            rw [hcj] at hj
            cases hj
            have := hc _ c hcj
            rw [this] at hvj
            cases hvj
            exact .c _ _ ((hcr _ c hcj).ext x1)
      · have := hE.defers.B
        show G.B ≤ W1.heap.size
        omega
      · rintro e w3 ⟨G3, st3, s3, v, hK, rfl, x3, i3, hX3, hL3, hE3⟩
        have hj := run_endLoop (P := P) hL3 (by rw [hrec]; cases s3 <;> simp)
        obtain ⟨w4, hw4⟩ : ∃ w4, w3.putObj (w.heap.size + 1) (.loop { rec (if s3.isNone then .ready else .done) s3 with state := .exhausted }) = w4 := ⟨_, rfl⟩
        have hnl : ∀ (r : Loop) (cs : Array Value) (e : TypeId) (f : Nat × Nat), Obj.loop r ≠ .cells cs e f := fun _ _ _ _ h => by cases h
        have x4 : ExtM (w.heap.size + 1) G3 w3 G3 w4 := by rw [← hw4]; exact putObj_extM hL3 (hnl _)
        have s4 : SC w3 w4 := by rw [← hw4]; exact putObj_sc hL3 (hnl _)
        have i4 := i3.sc s4 (by rw [← hw4]; exact Nat.le_of_eq World.putObj_size.symm)
        have no3 : NoCells w3 (w.heap.size + 1) := fun cs e f hc => by rw [hL3] at hc; cases hc
        have e4 := hE3.extM x4 no3 (fun hc => by rw [hL3] at hc; cases hc)
        have xM := x3.trans x4
        have xx : Ext G w G3 w4 := by
          refine ⟨⟨Nat.le_trans x1.size xM.size, fun i hi => xM.U i (x1.U i hi), fun k hk => xM.X k (x1.X k hk), fun k hk => ?_, fun i hi => ?_, fun i g z hi hb cs e hc => ?_⟩, fun i hi => xM.R i (x1.R i hi), fun i hi hu => x1.res i hi (xM.res i (x1.R i hi) hu), ⟨xM.out.1.trans x1.out.1, xM.out.2.1.trans x1.out.2.1, xM.out.2.2.trans x1.out.2.2⟩, xM.B⟩
          · have := hI.X k hk
            rw [xM.kept k (x1.X k hk) (by omega)]; exact x1.kept k hk
          · exact xM.live i hi
          · exact xM.shape i g z hi hb cs e (by rw [hold g (Array.getElem?_eq_some_iff.1 hc).1]; exact hc)
        have hDm : w4.heap[w.heap.size]? = some (.deferred (some [])) := (xM.kept _ (.inr (.inl rfl)) (by omega)).trans hD1
        have hm : Marks G3 w4 ({ target := .collected w.heap.size, args := #[] } :: a.defers) := by
          refine ⟨⟨w.heap.size, rfl, ?_, xM.X _ (.inr (.inl rfl)), hDm, fun d' hd' e => ?_⟩, hE.defers.exts xx.toExtS xx.B⟩
          · rw [xx.B]; exact hE.defers.B
          · exact Nat.lt_irrefl _ (hE.defers.lt d' hd' _ e)
        have eE : RE N G3 w4 env { a with defers := [{ target := .collected w.heap.size, args := #[] }] ++ a.defers } := ⟨hE.size, hm, e4.at_⟩
        have hp : (rec (if s3.isNone = true then .ready else .done) s3).pending = s3 := by rw [hrec]
        refine ⟨s3, w4, hj.trans (by rw [hw4, hp]), ?_⟩
        clear hw4 hp hj hL3
        cases s3 with
        | none => exact ⟨G3, env, st3, hK, xx, i4, eE⟩
        | some c =>
          cases c with
          | ret => exact wpIn_ret ⟨G3, env, st3, hK, xx, i4, eE⟩
          | exit i => exact wpIn_exit ⟨G3, env, st3, hK, xx, i4, eE⟩
          | goto t => exact wpIn_goto ⟨G3, env, st3, hK, xx, i4, eE⟩
          | _ => exact hK.elim⟩
theorem Pw.gen {ρ : Option Nat} {c : Code} {Q : Exit → Env → Sto → Prop} {env : Env} {st : Sto} (h : ∀ S, S = st → Pw (ρ := ρ) P N c Q env S) : Pw (ρ := ρ) P N c Q env st := h _ rfl
end Go.Proofs.YtbmgenifdlgbmaaGreat.D.Pm

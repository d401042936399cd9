/- Words and contracts: a plain machine over the model, and what the functions that a law reaches come to, each for every input that its theorem names. -/
import Derived.Test.YtnafgpgbedcdnaaDoorV1
import Derived.ChangeArms
import Derived.Carry
namespace Go.Proofs.YtnafgpgbedcdnaaDoor.D.Pm
set_option linter.unusedVariables false
set_option linter.unusedSimpArgs false
open Go
inductive TTree where
  | nil
  | node (l : TTree) (k : Nat) (i : TI) (r : TTree)
def TTree.get : TTree → TT
  | .nil, _ => none
  | .node l k i r, t => if t = k then some i else if t < k then l.get t else r.get t
def TTree.all (f : Nat → TI → Bool) : TTree → Bool
  | .nil => true
  | .node l k i r => f k i && l.all f && r.all f
theorem TTree.all_get {f : Nat → TI → Bool} : ∀ {T : TTree}, T.all f = true → ∀ {t : Nat} {i : TI}, T.get t = some i → f t i = true
  | .nil, _, t, i, hg => by cases hg
  | .node l k j r, h, t, i, hg => by
    simp only [TTree.all, Bool.and_eq_true] at h
    unfold TTree.get at hg
    split at hg
    · rename_i ht; cases hg; subst ht; exact h.1.1
    · split at hg
      · exact TTree.all_get h.1.2 hg
      · exact TTree.all_get h.2 hg
def veq : Value → Value → Bool
  | .bool a, .bool b => a == b
  | .int k a, .int k' b => decide (k = k') && decide (a = b)
  | .string a, .string b => decide (a = b)
  | .pointer none, .pointer none => true
  | .slice none a b, .slice none c d => decide (a = c) && decide (b = d)
  | .map none, .map none => true
  | .nilFunc, .nilFunc => true
  | .nilIface, .nilIface => true
  | _, _ => false
theorem veq_ok {a b : Value} (h : veq a b = true) : a = b ∧ a.oneCell' = true := by
  unfold veq at h
  split at h <;> first | exact ⟨rfl, rfl⟩ | (simp_all [Value.oneCell']; done) | cases h
def veqs : List Value → List Value → Bool
  | [], [] => true
  | a :: r, b :: q => veq a b && veqs r q
  | _, _ => false
theorem veqs_ok : ∀ {a b : List Value}, veqs a b = true → a = b ∧ ∀ x ∈ b, x.oneCell' = true
  | [], [], _ => ⟨rfl, fun x h => by cases h⟩
  | a :: r, b :: q, h => by
    simp only [veqs, Bool.and_eq_true] at h
    obtain ⟨h1, h2⟩ := veq_ok h.1
    obtain ⟨h3, h4⟩ := veqs_ok h.2
    subst h1 h3
    exact ⟨rfl, fun x hx => by
      rcases List.mem_cons.1 hx with rfl | hx
      · exact h2
      · exact h4 x hx⟩
  | [], _ :: _, h => by cases h
  | _ :: _, [], h => by cases h
def fseq : List Field → List (Nat × TypeId) → Bool
  | [], [] => true
  | f :: r, p :: q => decide (f.offset = p.1) && decide (f.type = p.2) && fseq r q
  | _, _ => false
theorem fseq_ok : ∀ {a : List Field} {b : List (Nat × TypeId)}, fseq a b = true → a.map (fun f => (f.offset, f.type)) = b
  | [], [], _ => rfl
  | f :: r, (o, t) :: q, h => by
    simp only [fseq, Bool.and_eq_true, decide_eq_true_eq] at h
    rw [List.map_cons, fseq_ok h.2, h.1.1, h.1.2]
  | [], _ :: _, h => by cases h
  | _ :: _, [], h => by cases h
def dchk : D → TypeDesc → Bool
  | .b, .bool => true
  | .i k, .int k' => decide (k = k')
  | .s, .string => true
  | .sl e, .slice e' => decide (e = e')
  | .st fs, .struct a => fseq a.toList fs
  | .pt e, .pointer e' => decide (e = e')
  | .fn, .func _ _ _ => true
  | .mp k e, .map k' e' => decide (k = k') && decide (e = e')
  | .ay n e, .array n' e' => decide (n = n') && decide (e = e')
  | _, _ => false
theorem dchk_ok {d : D} {t : TypeDesc} (h : dchk d t = true) : d.is t := by
  cases d <;> cases t <;> simp [dchk] at h <;> simp [D.is, h]
  case st.struct fs a => exact fseq_ok h
def tchq (P : Program) (t : Nat) (i : TI) : Bool :=
  match i.d with
  | .st _ => !P.stoodInHeld t && (!P.eqGuardType P.depth t && match P.underlying t with
    | some (.struct a) => a.toList.all fun f => !decide (f.name = "_")
    | _ => true)
  | _ => true
theorem tchq_ok {P : Program} {t : Nat} {i : TI} (h : tchq P t i = true) : ∀ fs, i.d = .st fs → P.stoodInHeld t = false ∧ P.eqGuardType P.depth t = false ∧ ∀ a, P.underlying t = some (.struct a) → ∀ f ∈ a.toList, f.name ≠ "_" := by
  intro fs hd
  unfold tchq at h
  rw [hd] at h
  simp only [Bool.and_eq_true, Bool.not_eq_true'] at h
  refine ⟨h.1, h.2.1, fun a ha f hf => ?_⟩
  have h2 := h.2.2
  rw [ha] at h2
  have := List.all_eq_true.1 h2 f hf
  simpa using this
def tchk (P : Program) (t : Nat) (i : TI) : Bool :=
  tchq P t i && match P.underlying t, P.info? t with
  | some d, some n => dchk i.d d && (n.size == i.size && (n.bytes == i.bytes && (i.z.length == i.size && match n.zero with
    | some z => veqs z.cells.toList i.z
    | none => false)))
  | _, _ => false
theorem tok {P : Program} {T : TTree} (h : T.all (tchk P) = true) : TOk P T.get := by
  have key : ∀ t i, T.get t = some i → ∃ d n z, P.underlying t = some d ∧ P.info? t = some n ∧ i.d.is d ∧ n.size = i.size ∧ n.bytes = i.bytes ∧ i.z.length = i.size ∧ n.zero = some z ∧ z.cells.toList = i.z ∧ ∀ x ∈ i.z, x.oneCell' = true := by
    intro t i ht
    have hc := TTree.all_get h ht
    unfold tchk at hc
    rw [Bool.and_eq_true] at hc
    replace hc := hc.2
    split at hc
    · rename_i d n h1 h2
      simp only [Bool.and_eq_true, beq_iff_eq] at hc
      obtain ⟨c1, c2, c3, c4, c5⟩ := hc
      split at c5
      · rename_i z hz
        obtain ⟨e1, e2⟩ := veqs_ok c5
        exact ⟨d, n, z, h1, h2, dchk_ok c1, c2, c3, c4, hz, e1, e2⟩
      · cases c5
    · cases hc
  exact ⟨fun t i fs ht hd => by
    have hc := TTree.all_get h ht
    unfold tchk at hc
    rw [Bool.and_eq_true] at hc
    exact tchq_ok hc.1 fs hd, fun t i ht => let ⟨d, n, z, h1, h2, h3, _⟩ := key t i ht; ⟨d, h1, h3⟩, fun t i ht => let ⟨d, n, z, h1, h2, h3, h4, h5, h6, h7, h8, h9⟩ := key t i ht; ⟨n, h2, h4, h5, ⟨z, h7, h8, trivial⟩, h6, h9⟩⟩
end Go.Proofs.YtnafgpgbedcdnaaDoor.D.Pm
namespace Go.Proofs.YtnafgpgbedcdnaaDoor.D.Pm
set_option linter.unusedVariables false
set_option linter.unusedSimpArgs false
open Go
theorem onO_mk {α : Type} {o : Option α} {a : α} {F : α → Prop} (h : o = some a) (k : F a) : onO o F := onO_iff.2 ⟨a, h, k⟩
theorem ev2_mk {env : Env} {x : Operand} {c : AC} {F : AC → Prop} (h : ev env x = some (.c c)) (k : F c) : ev2 env x F := onO_mk h k
theorem vcmp_det {p : Prop} {K : AV → Prop} (h : vcmp p K) : ∃ r, K r ∧ vcmp p (fun r' => r' = r) := by
  classical
  by_cases hp : p
  · exact ⟨_, h.1 hp, fun _ => rfl, fun h => absurd hp h⟩
  · exact ⟨_, h.2 hp, fun h => absurd h hp, fun _ => rfl⟩
theorem vII_det {op : BinOp} {k : IntKind} {a b : Int} {K : AV → Prop} (h : vII op k a b K) : ∃ r, K r ∧ vII op k a b (fun r' => r' = r) := by
  cases op <;> simp only [vII] at h ⊢ <;> first
    | exact h.elim
    | exact vcmp_det h
    | exact ⟨_, h, rfl⟩
    | exact ⟨_, h.2, h.1, rfl⟩
theorem sBin_det {op : BinOp} {p : Prop} {K : AV → Prop} (h : sBin op p K) : ∃ r, K r ∧ sBin op p (fun r' => r' = r) := by
  unfold sBin at h ⊢
  split at h
  · exact vcmp_det h
  · exact vcmp_det h
  · exact h.elim
theorem vSS_det {op : BinOp} {a b : ByteArray} {K : AV → Prop} (h : vSS op a b K) : ∃ r, K r ∧ vSS op a b (fun r' => r' = r) := by
  cases op <;> simp only [vSS] at h ⊢ <;> first
    | exact h.elim
    | exact vcmp_det h
    | exact ⟨_, h, rfl⟩
    | exact ⟨_, h.2, h.1, rfl⟩
def sure (x : AC) : Bool := match x with | .sl _ _ => false | _ => true
theorem vnil_mono {x : AC} {K K' : Bool → Prop} (h : vnil x K) (hk : ∀ b, K b → K' b) : vnil x K' := by
  unfold vnil at h ⊢
  split at h <;> first | exact hk _ h | exact fun b hb => hk _ (h b hb) | exact h.elim
theorem vnil_det {x : AC} {K : Bool → Prop} (hs : sure x = true) (h : vnil x K) : ∃ r, K r ∧ vnil x (fun r' => r' = r) := by
  unfold vnil at h ⊢
  split at h <;> first | exact ⟨_, h, rfl⟩ | exact h.elim | (simp [sure] at hs)
theorem vbin_det {op : BinOp} {x y : AC} {K : AV → Prop} (hs : sure x = true) (h : vbin op x y K) : ∃ r, K r ∧ vbin op x y (fun r' => r' = r) := by
  unfold vbin at h ⊢
  split at h
  · split at h
    · exact ⟨_, h.2, h.1, rfl⟩
    · exact ⟨_, h.2, h.1, rfl⟩
    · rename_i h1 h2
      split at h
      · rename_i hk
        obtain ⟨r, k1, k2⟩ := vII_det h
        refine ⟨r, k1, ?_⟩
        rw [if_pos hk]
        exact k2
      · exact h.elim
  · exact vSS_det h
  · split at h
    · simp only [onB_iff] at h; exact ⟨_, h, by simp [onB_iff]⟩
    · simp only [onB_iff] at h; exact ⟨_, h, by simp [onB_iff]⟩
    · exact h.elim
  · split at h
    · split at h
      · rename_i hn
        obtain ⟨b, k1, k2⟩ := vnil_det hs h
        refine ⟨_, k1, ?_⟩
        rw [if_pos hn]
        exact vnil_mono k2 fun b' hb => by rw [hb]
      · exact h.elim
    · split at h
      · rename_i hn
        obtain ⟨b, k1, k2⟩ := vnil_det hs h
        refine ⟨_, k1, ?_⟩
        rw [if_pos hn]
        exact vnil_mono k2 fun b' hb => by rw [hb]
      · exact h.elim
    · exact h.elim
/-- operations of a draw whose value does not hang on when they come up -/
def dop (env : Env) (op : Op) : Bool :=
  match op with
  | .move _ | .assign _ | .pick .. | .load .. | .unOp .. | .fieldAddr .. | .indexAddr .. | .index .. | .extract .. | .build .. | .nilCheck _ => true
  | .convert _ _ x => match ev env x with
    | some (.c (.v (.int _ _))) => true
    | some (.c (.v (.string _))) => true
    | _ => false
  | .slice _ _ _ _ none => true
  | .binOp _ _ x _ _ => match ev env x with
    | some (.c c) => sure c
    | some (.g _) => true
    | _ => false
  | .call { callee := .builtin .len, .. } => true
  | .call { callee := .builtin .max, .. } => true
  | _ => false
variable {P : Program} {T : TT} {env : Env} {st : Sto}
theorem rdv_det {p : AC} {F : List AC → Prop} (h : rdv st p F) : ∃ cs, F cs ∧ ∀ st', Le st st' → ∀ F' : List AC → Prop, F' cs → rdv st' p F' := by
  unfold rdv at h
  split at h
  · obtain ⟨cs, h1, h2⟩ := h; exact ⟨_, h2, fun st' hl F' h3 => ⟨cs, hl _ _ h1, h3⟩⟩
  · obtain ⟨z, rows, r, h1, h2, h3⟩ := h; exact ⟨_, h3, fun st' hl F' h4 => ⟨z, rows, r, hl _ _ h1, h2, h4⟩⟩
  · exact ⟨_, h, fun st' hl F' h4 => h4⟩
  · exact h.elim
theorem ixv_det {sz : Nat} {x : AC} {i : Int} {F : AC → Prop} (h : ixv st sz x i F) : ∃ p, F p ∧ ∀ st', Le st st' → ∀ F' : AC → Prop, F' p → ixv st' sz x i F' := by
  unfold ixv at h
  split at h
  · split at h
    · rename_i hz
      obtain ⟨h1, h2, r, h3, h4⟩ := h
      exact ⟨_, h4, fun st' hl F' h5 => by simp only [ixv, if_pos hz]; exact ⟨h1, h2, r, h3, h5⟩⟩
    · exact h.elim
  · obtain ⟨h1, h2, ⟨rows, h3⟩, h4⟩ := h; exact ⟨_, h4, fun st' hl F' h5 => ⟨h1, h2, ⟨rows, hl _ _ h3⟩, h5⟩⟩
  · exact h.elim
theorem ixa_det {sz m : Nat} {x : AC} {i : Int} {F : AC → Prop} (h : ixa st sz m x i F) : ∃ p, F p ∧ ∀ st', Le st st' → ∀ F' : AC → Prop, F' p → ixa st' sz m x i F' := by
  unfold ixa at h
  split at h
  · obtain ⟨h1, h2, ⟨rows, h3⟩, h4⟩ := h; exact ⟨_, h4, fun st' hl F' h5 => ⟨h1, h2, ⟨rows, hl _ _ h3⟩, h5⟩⟩
  · exact h.elim
theorem bd_det {x : Option Operand} {d : Int} {F : Int → Prop} (h : bd env x d F) : ∃ n, F n ∧ ∀ F' : Int → Prop, F' n → bd env x d F' := by
  unfold bd at h
  split at h
  · exact ⟨_, h, fun F' h' => h'⟩
  · obtain ⟨r, h1, h2⟩ := onO_iff.1 h
    split at h2
    · exact ⟨_, h2, fun F' h' => onO_mk h1 h'⟩
    · exact h2.elim
theorem bnd_det {lo hi : Option Operand} {n : Nat} {F : Nat → Nat → Prop} (h : bnd env lo hi n F) : ∃ l m, F l m ∧ ∀ F' : Nat → Nat → Prop, F' l m → bnd env lo hi n F' := by
  obtain ⟨h', h1, h2⟩ := bd_det h
  obtain ⟨l', ⟨k1, k2, k3, k4⟩, h4⟩ := bd_det h1
  exact ⟨_, _, k4, fun F' hf => h2 _ (h4 _ ⟨k1, k2, k3, hf⟩)⟩
theorem vcvt_det {src dst : TypeId} {x : AC} {F : AC → Prop} (hx : (∃ k n, x = .v (.int k n)) ∨ ∃ s, x = .v (.string s)) (h : vcvt T src dst x st fun y _ => F y) : ∃ y, F y ∧ ∀ st' (F' : AC → Sto → Prop), F' y st' → vcvt T src dst x st' F' := by
  rcases hx with ⟨k, n, rfl⟩ | ⟨s, rfl⟩
  · obtain ⟨h0, h⟩ := h
    obtain ⟨i, h1, h2⟩ := onO_iff.1 h
    split at h2
    · rename_i hd; exact ⟨_, h2, fun st' F' h' => ⟨h0, onO_mk h1 (by rw [hd]; exact h')⟩⟩
    · exact h2.elim
  · obtain ⟨q, hq, h⟩ := onO_iff.1 h
    split at h
    · rename_i hc
      obtain ⟨i, h1, h2⟩ := onO_iff.1 h
      split at h2
      · rename_i hd; exact ⟨_, h2, fun st' F' h' => onO_mk hq (by rw [if_pos hc]; exact onO_mk h1 (by rw [hd]; exact h'))⟩
      · rename_i e hd
        obtain ⟨z, h3, h2⟩ := onO_iff.1 h2
        split at h2
        · rename_i h8; exact ⟨_, h2.2, fun st' F' h' => onO_mk hq (by rw [if_pos hc]; exact onO_mk h1 (by rw [hd]; exact onO_mk h3 (by rw [if_pos h8]; exact ⟨h2.1, h'⟩)))⟩
        · exact h2.elim
      · exact h2.elim
    · exact h.elim
theorem vblt_det {b : Builtin} {ts : List TypeId} {xs : List Operand} (hb : b = .len ∨ b = .max) {K : AV → Prop} (h : vblt T env st b ts xs fun r _ => K r) : ∃ r, K r ∧ ∀ st', vblt T env st' b ts xs fun r' s => r' = r ∧ s = st' := by
  unfold vblt at h
  split at h
  · obtain ⟨c, h1, h⟩ := ev2_ok h
    obtain ⟨i, h2, h⟩ := onO_iff.1 h
    obtain ⟨n, h3, h⟩ := onO_iff.1 h
    split at h
    · rename_i hc; exact ⟨_, h, fun st' => ev2_mk h1 (onO_mk h2 (onO_mk h3 (by rw [if_pos hc]; exact ⟨rfl, rfl⟩)))⟩
    · exact h.elim
  · rcases hb with hb | hb <;> cases hb
  · rcases hb with hb | hb <;> cases hb
  · obtain ⟨x, h1, h⟩ := onO_iff.1 h
    obtain ⟨y, h2, h⟩ := onO_iff.1 h
    unfold onI at h
    split at h
    · split at h
      · split at h
        · rename_i hk; exact ⟨_, h, fun st' => onO_mk h1 (onO_mk h2 (by simp [onI, hk]))⟩
        · exact h.elim
      · exact h.elim
    · exact h.elim
  · exact h.elim
theorem det {op : Op} {K : AV → Prop} (hd : dop env op = true) (h : vop P T env st op fun r _ => K r) : ∃ r, K r ∧ ∀ st', Le st st' → vop P T env st' op fun r' s => r' = r ∧ s = st' := by
  cases op
  case move x => obtain ⟨r, h1, h⟩ := onO_iff.1 h; exact ⟨r, h, fun st' _ => onO_mk h1 ⟨rfl, rfl⟩⟩
  case assign x => obtain ⟨r, h1, h⟩ := onO_iff.1 h; exact ⟨r, h, fun st' _ => onO_mk h1 ⟨rfl, rfl⟩⟩
  case pick c x y =>
    obtain ⟨r, h1, hr⟩ := onO_iff.1 h
    obtain ⟨b, hb, h⟩ := onT_iff.1 hr
    subst hb
    cases b
    · obtain ⟨r, h2, h⟩ := onO_iff.1 h; exact ⟨r, h, fun st' _ => onO_mk h1 (onO_mk h2 ⟨rfl, rfl⟩)⟩
    · obtain ⟨r, h2, h⟩ := onO_iff.1 h; exact ⟨r, h, fun st' _ => onO_mk h1 (onO_mk h2 ⟨rfl, rfl⟩)⟩
  case load t p =>
    obtain ⟨c, h1, h⟩ := ev2_ok h
    obtain ⟨cs, h, h2⟩ := rdv_det h
    obtain ⟨r, h3, h⟩ := onO_iff.1 h
    exact ⟨r, h, fun st' hl => ev2_mk h1 (h2 st' hl _ (onO_mk h3 ⟨rfl, rfl⟩))⟩
  case unOp op t x =>
    obtain ⟨r, h1, hr⟩ := onO_iff.1 h
    split at hr
    · obtain ⟨b, hb, h⟩ := onT_iff.1 hr
      exact ⟨_, h, fun st' _ => onO_mk h1 (onT_iff.2 ⟨b, hb, rfl, rfl⟩)⟩
    · unfold onI at hr
      split at hr
      · exact ⟨_, hr, fun st' _ => onO_mk h1 ⟨rfl, rfl⟩⟩
      · exact hr.elim
    · exact hr.elim
  case fieldAddr t x n =>
    obtain ⟨c, h1, h⟩ := ev2_ok h
    obtain ⟨i, h2, h⟩ := onO_iff.1 h
    obtain ⟨fs, h3, h⟩ := stE_ok h
    obtain ⟨f, h4, h⟩ := onO_iff.1 h
    obtain ⟨j, h5, h⟩ := onO_iff.1 h
    split at h
    · rename_i hz
      obtain ⟨q, h6, h⟩ := onO_iff.1 h
      exact ⟨_, h, fun st' _ => ev2_mk h1 (onO_mk h2 (by rw [h3]; exact onO_mk h4 (onO_mk h5 (by rw [if_pos hz]; exact onO_mk h6 ⟨rfl, rfl⟩))))⟩
    · exact h.elim
  case indexAddr t x y =>
    obtain ⟨c, h1, h⟩ := ev2_ok h
    obtain ⟨r, h2, hr⟩ := onO_iff.1 h
    unfold onI at hr
    split at hr
    · obtain ⟨i, h3, h⟩ := onO_iff.1 hr
      split at h
      · rename_i hd
        obtain ⟨j, h5, h⟩ := onO_iff.1 h
        obtain ⟨p, h, h6⟩ := ixa_det h
        exact ⟨_, h, fun st' hl => ev2_mk h1 (onO_mk h2 (onO_mk h3 (by dsimp only; rw [hd]; exact onO_mk h5 (h6 st' hl _ ⟨rfl, rfl⟩))))⟩
      · obtain ⟨e, h4, h⟩ := slE_ok h
        obtain ⟨j, h5, h⟩ := onO_iff.1 h
        obtain ⟨p, h, h6⟩ := ixv_det h
        exact ⟨_, h, fun st' hl => ev2_mk h1 (onO_mk h2 (onO_mk h3 (by dsimp only; rw [h4]; exact onO_mk h5 (h6 st' hl _ ⟨rfl, rfl⟩))))⟩
    · exact hr.elim
  case index t x y =>
    obtain ⟨c, h1, h⟩ := onO_iff.1 h
    obtain ⟨r, h2, hr⟩ := onO_iff.1 h
    unfold onI at hr
    split at hr
    · obtain ⟨i, h3, h⟩ := onO_iff.1 hr
      split at h
      · split at h
        · rename_i hs
          exact ⟨_, h.2.2, fun st' hl => onO_mk h1 (onO_mk h2 (onO_mk h3 (by show (if _ then _ else False); rw [if_pos hs]; exact ⟨h.1, h.2.1, rfl, rfl⟩)))⟩
        · exact h.elim
      · obtain ⟨m, e, he, h⟩ := ayE_ok h
        obtain ⟨z, h4, h5, h6, h⟩ := onO_iff.1 h
        obtain ⟨r, h7, h⟩ := onO_iff.1 h
        exact ⟨r, h, fun st' hl => onO_mk h1 (onO_mk h2 (onO_mk h3 (by show ayE _ _; rw [he]; exact onO_mk h4 ⟨h5, h6, onO_mk h7 ⟨rfl, rfl⟩⟩)))⟩
      · exact h.elim
    · exact hr.elim
  case extract x n =>
    obtain ⟨r, h1, hr⟩ := onO_iff.1 h
    split at hr
    · obtain ⟨r, h2, h⟩ := onO_iff.1 hr
      exact ⟨_, h, fun st' _ => onO_mk h1 (onO_mk h2 ⟨rfl, rfl⟩)⟩
    · exact hr.elim
  case convert s d x =>
    obtain ⟨c, h1, h⟩ := ev2_ok h
    have hx : (∃ k n, c = .v (.int k n)) ∨ ∃ s, c = .v (.string s) := by
      simp only [dop, h1] at hd
      split at hd
      · rename_i heq; cases heq; exact .inl ⟨_, _, rfl⟩
      · rename_i heq; cases heq; exact .inr ⟨_, rfl⟩
      · cases hd
    obtain ⟨y, h, h2⟩ := vcvt_det hx h
    exact ⟨_, h, fun st' _ => ev2_mk h1 (h2 st' _ ⟨rfl, rfl⟩)⟩
  case build t ps =>
    obtain ⟨rs, h1, h⟩ := onO_iff.1 h
    obtain ⟨i, h2, h⟩ := onO_iff.1 h
    obtain ⟨fs, h3, h⟩ := onO_iff.1 h
    split at h
    · rename_i hc
      obtain ⟨out, h4, h⟩ := onO_iff.1 h
      exact ⟨_, h, fun st' _ => onO_mk h1 (onO_mk h2 (onO_mk h3 (by show (if _ then _ else False); rw [if_pos hc]; exact onO_mk h4 ⟨rfl, rfl⟩)))⟩
    · exact h.elim
  case nilCheck x =>
    obtain ⟨c, h1, h⟩ := ev2_ok h
    refine ⟨.c c, ?_, fun st' _ => ev2_mk h1 ?_⟩
    · split at h <;> first | exact h | exact h.elim
    · split at h <;> first | exact ⟨rfl, rfl⟩ | exact h.elim
  case slice t x lo hi mx =>
    cases mx with
    | some m => exact h.elim
    | none =>
      obtain ⟨c, h1, h⟩ := ev2_ok h
      obtain ⟨i, h2, h⟩ := onO_iff.1 h
      split at h
      · split at h
        · rename_i hs
          obtain ⟨l, m, h, h3⟩ := bnd_det h
          exact ⟨_, h, fun st' _ => ev2_mk h1 (onO_mk h2 (by show (if _ then _ else False); rw [if_pos hs]; exact h3 _ ⟨rfl, rfl⟩))⟩
        · exact h.elim
      · obtain ⟨e, h3, h⟩ := slE_ok h
        obtain ⟨j, h4, h⟩ := onO_iff.1 h
        split at h
        · rename_i hz
          obtain ⟨l, m, h, h5⟩ := bnd_det h
          exact ⟨_, h, fun st' _ => ev2_mk h1 (onO_mk h2 (by rw [h3]; exact onO_mk h4 (by show (if _ then _ else False); rw [if_pos hz]; exact h5 _ ⟨rfl, rfl⟩)))⟩
        · exact h.elim
      · obtain ⟨e, h3, h⟩ := slE_ok h
        obtain ⟨j, h4, ⟨rows, h5⟩, h⟩ := onO_iff.1 h
        obtain ⟨l, m, h, h6⟩ := bnd_det h
        exact ⟨_, h, fun st' hl => ev2_mk h1 (onO_mk h2 (by rw [h3]; exact onO_mk h4 ⟨⟨rows, hl _ _ h5⟩, h6 _ ⟨rfl, rfl⟩⟩))⟩
      · obtain ⟨m, e, h3, h⟩ := ayE_ok h
        obtain ⟨j, h4, h7, ⟨rows, h5, h8⟩, h⟩ := onO_iff.1 h
        obtain ⟨l, m', h, h6⟩ := bnd_det h
        exact ⟨_, h, fun st' hl => ev2_mk h1 (onO_mk h2 (by show ayE _ _; rw [h3]; exact onO_mk h4 ⟨h7, ⟨rows, hl _ _ h5, h8⟩, h6 _ ⟨rfl, rfl⟩⟩))⟩
      · exact h.elim
  case binOp op t x y ty =>
    obtain ⟨c0, h1, h⟩ := onO_iff.1 h
    split at h
    · rename_i c
      obtain ⟨d, h2, h⟩ := ev2_ok h
      obtain ⟨i, h3, h⟩ := onO_iff.1 h
      split at h
      · rename_i hc
        have hs : sure c = true := by simp only [dop, h1] at hd; exact hd
        obtain ⟨r, h, h4⟩ := vbin_det hs h
        refine ⟨r, h, fun st' _ => onO_mk h1 (ev2_mk h2 (onO_mk h3 ?_))⟩
        rw [if_pos hc]
        have e : (fun r' : AV => r' = r ∧ st' = st') = fun r' => r' = r := by funext r'; simp
        rw [e]; exact h4
      · exact h.elim
    · obtain ⟨r', h2, h⟩ := onO_iff.1 h
      split at h
      · obtain ⟨i, h3, h⟩ := onO_iff.1 h
        obtain ⟨fs, h4, h⟩ := stE_ok h
        obtain ⟨p, h, h5⟩ := eqP_det h
        obtain ⟨r, h, h6⟩ := sBin_det h
        exact ⟨r, h, fun st' _ => onO_mk h1 (onO_mk h2 (onO_mk h3 (by
          rw [h4]
          refine h5 _ ?_
          have e : (fun r' : AV => r' = r ∧ st' = st') = fun r' => r' = r := by funext r'; simp
          rw [e]; exact h6)))⟩
      · exact h.elim
    · exact h.elim
  case call c =>
    obtain ⟨callee, args, ats⟩ := c
    cases callee with
    | builtin b =>
      have hb : b = .len ∨ b = .max := by cases b <;> first | exact .inl rfl | exact .inr rfl | cases hd
      obtain ⟨r, h, h1⟩ := vblt_det hb h
      exact ⟨r, h, fun st' _ => h1 st'⟩
    | _ => cases hd
  all_goals cases hd
end Go.Proofs.YtnafgpgbedcdnaaDoor.D.Pm
namespace Go.Proofs.YtnafgpgbedcdnaaDoor.D.Pm
set_option linter.unusedVariables false
set_option linter.unusedSimpArgs false
open Go
/-! ### regions that draw their order -/
theorem evs_congr {env env' : Env} : ∀ {xs : List Operand}, (∀ x ∈ xs, ev env x = ev env' x) → evs env xs = evs env' xs
  | [], _ => rfl
  | x :: xs, h => by simp only [evs, h x (List.mem_cons_self ..), evs_congr (fun y hy => h y (List.mem_cons_of_mem _ hy))]
theorem parts_congr {env env' : Env} : ∀ {xs : List (Nat × Operand)}, (∀ x ∈ xs, ev env x.2 = ev env' x.2) → parts env xs = parts env' xs
  | [], _ => rfl
  | (i, x) :: xs, h => by simp only [parts, h (i, x) (List.mem_cons_self ..), parts_congr (fun y hy => h y (List.mem_cons_of_mem _ hy))]
theorem bd_congr {env env' : Env} {x : Option Operand} {d : Int} {Q : Int → Prop} (h : ∀ y, x = some y → ev env y = ev env' y) : bd env x d Q = bd env' x d Q := by
  cases x with
  | none => rfl
  | some y => simp only [bd, h y rfl]
theorem vop_congr {P : Program} {T : TT} {env env' : Env} {st : Sto} {op : Op} {K : AV → Sto → Prop} (h : ∀ x ∈ op.operands, ev env x = ev env' x) (hv : vop P T env st op K) : vop P T env' st op K := by
  have e : vop P T env st op K = vop P T env' st op K := by
    cases op
    case call c =>
      obtain ⟨callee, args, ats⟩ := c
      have ha : ∀ x ∈ args.toList, ev env x = ev env' x := fun x hx => h x (by simp [Op.operands, Call.operands, Array.mem_toList_iff.1 hx])
      cases callee with
      | value f =>
        have hf : ev env f = ev env' f := h f (by simp [Op.operands, Call.operands])
        simp only [vop, ev2, hf, evs_congr ha]
      | builtin b =>
        simp only [vop]
        unfold vblt
        split
        · rename_i he; rw [he] at ha; simp only [ev2, ha _ (List.mem_cons_self ..)]
        · rename_i he; rw [he] at ha; simp only [ev2, ha _ (List.mem_cons_self ..), ha _ (List.mem_cons_of_mem _ (List.mem_cons_self ..))]
        · rename_i he; rw [he] at ha; simp only [ev2, ha _ (List.mem_cons_self ..), ha _ (List.mem_cons_of_mem _ (List.mem_cons_self ..))]
        · rename_i he; rw [he] at ha; simp only [ev2, ha _ (List.mem_cons_self ..), ha _ (List.mem_cons_of_mem _ (List.mem_cons_self ..))]
        · rfl
      | invoke _ _ => rfl
    case build t ps =>
      have hp : ∀ x ∈ ps.toList, ev env x.2 = ev env' x.2 := fun x hx => h x.2 (by simp only [Op.operands, List.mem_toArray, List.mem_map]; exact ⟨x, hx, rfl⟩)
      simp only [vop, parts_congr hp]
    case buildSlice t n ps =>
      have hp : ∀ x ∈ ps.toList, ev env x.2 = ev env' x.2 := fun x hx => h x.2 (by simp only [Op.operands, List.mem_toArray, List.mem_map]; exact ⟨x, hx, rfl⟩)
      simp only [vop, parts_congr hp]
    case makeFunc fn first caps =>
      have hp : ∀ x ∈ caps.toList, ev env x = ev env' x := fun x hx => h x (by simp [Op.operands, Array.mem_toList_iff.1 hx])
      have hq : ∀ x ∈ first.toList, ev env x = ev env' x := fun x hx => h x (by simp [Op.operands, Array.mem_toList_iff.1 hx])
      cases fn <;> simp only [vop, evs_congr hp, evs_congr hq]
    case slice t x lo hi mx =>
      have hx : ev env x = ev env' x := h x (by simp [Op.operands])
      have hl : ∀ y, lo = some y → ev env y = ev env' y := fun y hy => h y (by simp [Op.operands, hy])
      have hh : ∀ y, hi = some y → ev env y = ev env' y := fun y hy => h y (by simp [Op.operands, hy])
      cases mx with
      | some m => rfl
      | none =>
        have hb : ∀ n F, bnd env lo hi n F = bnd env' lo hi n F := fun n F => by simp only [bnd, bd_congr hl, bd_congr hh]
        simp only [vop, ev2, hx, hb]
    all_goals first
      | rfl
      | (simp only [Op.operands, List.mem_toArray, List.forall_mem_cons, List.not_mem_nil, false_implies, implies_true, and_true] at h; simp only [vop, ev2, h])
  exact e ▸ hv
/-- edges that bind -/
def edg (ops : Array Oper) (i : Nat) : List Nat := ((ops[i]?).map fun o => (o.after.toList.filter (Region.binds .any)).map (·.on)).getD []
def mkA (ops : Array Oper) : Nat → List (List Nat)
  | 0 => []
  | i + 1 => let M := mkA ops i; M ++ [((edg ops i).flatMap fun d => d :: M.getD d []).eraseDups]
/-- the table M names, for each operation, only such as come up before it; and edges go back -/
def ancOk (ops : Array Oper) (M : List (List Nat)) : Bool :=
  (List.range ops.size).all fun i => (edg ops i).all (fun d => decide (d < i)) && (M.getD i []).all fun j => decide (j < i) && ((edg ops i).contains j || (edg ops i).any fun d => (M.getD d []).contains j)
def dsts (ops : Array Oper) (t : Tmp) : List Nat := (List.range ops.size).filter fun j => (ops[j]?).bind (·.dst) == some t
def drawOk (ops : Array Oper) (M : List (List Nat)) : Bool :=
  ancOk ops M && (List.range ops.size).all fun i => match ops[i]? with
    | some o => (match o.dst with | some d => dsts ops d == [i] | none => true) &&
      (o.looksAt ops).all fun t => (dsts ops t).all fun j => (M.getD i []).contains j || (M.getD j []).contains i
    | none => true
theorem edg_ready {ops : Array Oper} {listed : Array Bool} {i : Nat} : i ∈ Region.ready .any ops listed ↔ i < ops.size ∧ listed.getD i true = false ∧ ∀ d ∈ edg ops i, listed.getD d false = true := by
  unfold Region.ready edg
  simp only [List.mem_filter, List.mem_range, Bool.and_eq_true, Bool.not_eq_true']
  constructor
  · rintro ⟨h1, h2, h3⟩
    refine ⟨h1, h2, fun d hd => ?_⟩
    rw [Array.getElem?_eq_getElem h1] at h3 hd
    simp only [Option.map_some, Option.getD_some, Array.all_eq_true_iff_forall_mem, Bool.or_eq_true, Bool.not_eq_true'] at h3 hd
    obtain ⟨e, he, rfl⟩ := List.mem_map.1 hd
    obtain ⟨he1, he2⟩ := List.mem_filter.1 he
    rcases h3 e (Array.mem_toList_iff.1 he1) with h | h
    · rw [he2] at h; cases h
    · exact h
  · rintro ⟨h1, h2, h3⟩
    refine ⟨h1, h2, ?_⟩
    rw [Array.getElem?_eq_getElem h1] at h3 ⊢
    simp only [Option.map_some, Option.getD_some, Array.all_eq_true_iff_forall_mem, Bool.or_eq_true, Bool.not_eq_true'] at h3 ⊢
    intro e he
    cases hb : Region.binds .any e
    · exact .inl rfl
    · exact .inr (h3 _ (List.mem_map.2 ⟨e, List.mem_filter.2 ⟨Array.mem_toList_iff.2 he, hb⟩, rfl⟩))
theorem ancOk_lt {ops : Array Oper} {M : List (List Nat)} (h : ancOk ops M = true) {i : Nat} (hi : i < ops.size) : (∀ d ∈ edg ops i, d < i) ∧ ∀ j ∈ M.getD i [], j < i ∧ (j ∈ edg ops i ∨ ∃ d ∈ edg ops i, j ∈ M.getD d []) := by
  have := List.all_eq_true.1 h i (List.mem_range.2 hi)
  simp only [Bool.and_eq_true, List.all_eq_true, decide_eq_true_eq, Bool.or_eq_true, List.contains_iff_mem, List.any_eq_true] at this
  exact ⟨this.1, fun j hj => this.2 j hj⟩
theorem anc_in {ops : Array Oper} {M : List (List Nat)} (h : ancOk ops M = true) {b : Nat → Prop} (hc : ∀ i, i < ops.size → b i → ∀ d ∈ edg ops i, b d) : ∀ (i : Nat), i < ops.size → (∀ d ∈ edg ops i, b d) → ∀ j ∈ M.getD i [], b j := by
  intro i
  induction i using Nat.strongRecOn with
  | _ i ih =>
    intro hi hd j hj
    obtain ⟨h1, h2⟩ := ancOk_lt h hi
    rcases (h2 j hj).2 with h3 | ⟨d, hde, h3⟩
    · exact hd j h3
    · have hlt := h1 d hde
      exact ih d hlt (by omega) (hc d (by omega) (hd d hde)) j h3
end Go.Proofs.YtnafgpgbedcdnaaDoor.D.Pm
namespace Go.Proofs.YtnafgpgbedcdnaaDoor.D.Pm
set_option linter.unusedVariables false
set_option linter.unusedSimpArgs false
open Go
/-- what an operation makes, if it makes something -/
def alOb (T : TT) (env : Env) (op : Op) : Option (Ob × (Nat → AV)) :=
  match op with
  | .alloc t => match T t with
    | some i => some (.bx (i.z.map .v), fun id => .c (.ptr id 0))
    | none => none
  | .box t x => match ev env x with
    | some (.c c) => some (.bx [c], fun id => .c (.ptr id 0))
    | some (.g cs) => some (.bx cs, fun id => .c (.ptr id 0))
    | _ => none
  | .buildSlice t n ps => match parts env ps.toList with
    | some ps => match T t with
      | some i => match i.d with
        | .sl e => match T e with
          | some z => if n * z.size ≤ 16777216 ∧ n ≤ maxLen then (match fillR z.size (List.replicate n (z.z.map .v)) ps with
            | some rows => some (.ar z.size rows, fun id => .c (.arr id 0 n))
            | none => none) else none
          | none => none
        | _ => none
      | none => none
    | none => none
  | _ => none
theorem alOb_ok {P : Program} {T : TT} (TP : TOk P T) {N : Nat} {env : Env} {o : Oper} {ob : Ob} {f : Nat → AV} (h : alOb T env o.op = some (ob, f)) {G : Gh} {w : World} {a : Act} {st : Sto} (hI : Inv G w st) (hE : RE N G w env a) (id : Nat) (hu : G.Fr id) :
    ∃ v w' sz, (execOp a.eval o).run P w = .ok (.value v) w' ∧ Ext G w (G.add id w.heap.size sz) w' ∧ Inv (G.add id w.heap.size sz) w' (upd st id ob) ∧ RV (G.add id w.heap.size sz) w' (f id) v := by
  obtain ⟨dst, op, ty, pos, after, guard⟩ := o
  have fin : ∀ (s : Sem Value), execOp a.eval ⟨dst, op, ty, pos, after, guard⟩ = (do pure (.value (← s))) → (∃ v w' sz, s.run P w = .ok v w' ∧ Ext G w (G.add id w.heap.size sz) w' ∧ Inv (G.add id w.heap.size sz) w' (upd st id ob) ∧ RV (G.add id w.heap.size sz) w' (f id) v) →
      ∃ v w' sz, (execOp a.eval ⟨dst, op, ty, pos, after, guard⟩).run P w = .ok (.value v) w' ∧ Ext G w (G.add id w.heap.size sz) w' ∧ Inv (G.add id w.heap.size sz) w' (upd st id ob) ∧ RV (G.add id w.heap.size sz) w' (f id) v := by
    rintro s he ⟨v, w', sz, h1, h2⟩
    exact ⟨v, w', sz, by rw [he]; simp [h1], h2⟩
  dsimp only at h
  cases op <;> simp only [alOb] at h <;> first | cases h | skip
  case alloc t =>
    split at h
    · rename_i i hi; cases h; exact fin (Instr.alloc t true (.tuple #[])) (by simp only [execOp]) (Runs.allocAt TP hI hi id hu)
    · cases h
  case box t x =>
    split at h
    · rename_i c hc; cases h; exact fin (Instr.box t (a.eval x)) (by simp only [execOp]) (Runs.boxAt (r := .c c) hI (ev_ok hE hc) (fun l e => by cases e) id hu)
    · rename_i c hc; cases h; exact fin (Instr.box t (a.eval x)) (by simp only [execOp]) (Runs.boxAt (r := .g c) hI (ev_ok hE hc) (fun l e => by cases e) id hu)
    · cases h
  case buildSlice t n ps =>
    split at h
    · rename_i pv hp
      split at h
      · rename_i i hi
        split at h
        · rename_i e hd
          split at h
          · rename_i z hz
            split at h
            · rename_i hc
              split at h
              · rename_i rows hr
                cases h
                exact fin (Instr.buildSlice t n (ps.map fun (i, x) => (i, a.eval x))) (by simp only [execOp]) (Runs.buildSliceAt TP hI hi hd hz hc.1 hc.2 (by simpa using parts_ok hE hp) hr id hu)
              · cases h
            · cases h
          · cases h
        · cases h
      · cases h
    · cases h
def stA (st0 : Sto) (M : List Nat) : List (Nat × Nat × Ob) → Sto
  | [] => st0
  | (j, id, ob) :: r => if M.contains j = true then upd (stA st0 M r) id ob else stA st0 M r
def stL (st0 : Sto) : List (Nat × Nat × Ob) → Sto
  | [] => st0
  | (_, id, ob) :: r => upd (stL st0 r) id ob
/-- what must hold ahead of one operation of a draw, for F behind it -/
def vone (P : Program) (T : TT) (st : Sto) (env : Env) (op : Op) (F : AV → Prop) : Prop :=
  match op with
  | .call { callee := .value f, args := args, argTypes := _ } => ev2 env f fun f => match f with
    | .fn f caps => onO (evs env args.toList) fun as => ∃ r, (∀ st', Le st st' → Does P f (as ++ caps.map .c) st' fun r' s => r' = r ∧ s = st') ∧ F r
    | _ => False
  | op => match dop env op with
    | true => vop P T env st op fun r _ => F r
    | false => False
def vdraw (P : Program) (T : TT) (N : Nat) (ops : Array Oper) (M : List (List Nat)) (st0 : Sto) (Q : Env → Sto → Prop) : Nat → List Oper → Env → List (Nat × Nat × Ob) → Prop
  | _, [], env, al => Q env (stL st0 al)
  | i, o :: rest, env, al =>
    let run : Prop := match alOb T env o.op with
      | some (ob, f) => ∀ id, stL st0 al id = none → vdraw P T N ops M st0 Q (i + 1) rest (put N env o.dst (f id)) ((i, id, ob) :: al)
      | none => vone P T (stA st0 (M.getD i []) al) env o.op fun r => vdraw P T N ops M st0 Q (i + 1) rest (put N env o.dst r) al
    match o.guard with
    | none => run
    | some (j, want) => onO ((ops[j]?).bind (·.dst)) fun d => onO (look env d) fun r => onG r (vdraw P T N ops M st0 Q (i + 1) rest (put N env o.dst (.t [])) al) fun b =>
        if b = want then run else vdraw P T N ops M st0 Q (i + 1) rest (put N env o.dst (.t [])) al
theorem vone_det {P : Program} {T : TT} {st : Sto} {env : Env} {op : Op} {F : AV → Prop} (h : vone P T st env op F) : ∃ r, F r ∧ ∀ st', Le st st' → vop P T env st' op fun r' s => r' = r ∧ s = st' := by
  unfold vone at h
  split at h
  · obtain ⟨c, h1, h⟩ := ev2_ok h
    split at h
    · obtain ⟨as, h2, r, h3, h4⟩ := onO_iff.1 h
      exact ⟨r, h4, fun st' hl => ev2_mk h1 (onO_mk h2 (h3 st' hl))⟩
    · exact h.elim
  · split at h
    · rename_i hd; exact det hd h
    · exact h.elim
/-- what an operation of a draw came to -/
structure Rc where
  r : AV
  al : Option Ob
variable (N : Nat) (ops : Array Oper)
def envK (env0 : Env) (rs : List Rc) (b : Nat → Bool) : Nat → Env
  | 0 => env0
  | k + 1 => match ops[k]?, rs[k]? with
    | some o, some c => match b k with
      | true => put N (envK env0 rs b k) o.dst c.r
      | false => envK env0 rs b k
    | _, _ => envK env0 rs b k
def alK (base : Nat) (rs : List Rc) : Nat → List (Nat × Nat × Ob)
  | 0 => []
  | k + 1 => match (rs[k]?).bind (·.al) with
    | some ob => (k, base + k, ob) :: alK base rs k
    | none => alK base rs k
def stB (st0 : Sto) (base : Nat) (rs : List Rc) (b : Nat → Bool) : Sto := fun i =>
  if base ≤ i then (match b (i - base) with | true => (rs[i - base]?).bind (·.al) | false => none) else st0 i
variable {N ops}
theorem look_put {env : Env} {dst : Option Tmp} {r : AV} {t : Tmp} (h : dst ≠ some t) : look (put N env dst r) t = look env t := by
  cases dst with
  | none => rfl
  | some d =>
    simp only [put]
    split
    · rw [look, if_neg (fun e => h (congrArg some e))]
    · rfl
theorem look_put_same {env : Env} {r : AV} {t : Tmp} : look (put N env (some t) r) t = if t < N then some r else look env t := by
  simp only [put]
  split
  · rw [look, if_pos rfl]
  · rfl
theorem look_put_congr {env env' : Env} {dst : Option Tmp} {r : AV} {t : Tmp} (h : look env t = look env' t) : look (put N env dst r) t = look (put N env' dst r) t := by
  by_cases hd : dst = some t
  · subst hd; rw [look_put_same, look_put_same, h]
  · rw [look_put hd, look_put hd, h]
theorem look_envK {env0 : Env} {rs : List Rc} {b b' : Nat → Bool} {t : Tmp} : ∀ (k : Nat), (∀ j, j < k → (ops[j]?).bind (·.dst) = some t → b j = b' j) → look (envK N ops env0 rs b k) t = look (envK N ops env0 rs b' k) t
  | 0, _ => rfl
  | k + 1, h => by
    have ih := look_envK (env0 := env0) (rs := rs) (b := b) (b' := b') (t := t) k (fun j hj => h j (by omega))
    unfold envK
    cases ho : ops[k]? with
    | none => exact ih
    | some o =>
      cases hr : rs[k]? with
      | none => exact ih
      | some c =>
        dsimp only
        by_cases hd : o.dst = some t
        · have := h k (Nat.lt_succ_self _) (by rw [ho]; exact hd)
          rw [this]
          cases b' k
          · exact ih
          · exact look_put_congr ih
        · cases b k <;> cases b' k <;> simp only [look_put hd, ih]
theorem envK_le {env0 : Env} {rs : List Rc} {b : Nat → Bool} {t : Tmp} {k n : Nat} (hk : k ≤ n) (h : ∀ j, k ≤ j → j < n → (ops[j]?).bind (·.dst) = some t → b j = false) : look (envK N ops env0 rs b n) t = look (envK N ops env0 rs b k) t := by
  induction n with
  | zero =>
    have hk0 : k = 0 := by omega
    subst hk0; rfl
  | succ n ih =>
    by_cases hkn : k = n + 1
    · subst hkn; rfl
    · have := ih (by omega) (fun j h1 h2 => h j h1 (by omega))
      rw [← this]
      conv => lhs; unfold envK
      cases ho : ops[n]? with
      | none => rfl
      | some o =>
        cases hr : rs[n]? with
        | none => rfl
        | some c =>
          dsimp only
          by_cases hd : o.dst = some t
          · rw [h n (by omega) (Nat.lt_succ_self _) (by rw [ho]; exact hd)]
          · cases b n
            · rfl
            · exact look_put hd
theorem envK_app {env0 : Env} {rs : List Rc} {b : Nat → Bool} {c : Rc} : ∀ {k : Nat}, k ≤ rs.length → envK N ops env0 (rs ++ [c]) b k = envK N ops env0 rs b k
  | 0, _ => rfl
  | k + 1, h => by
    unfold envK
    rw [List.getElem?_append_left (by omega), envK_app (by omega)]
theorem alK_app {base : Nat} {rs : List Rc} {c : Rc} : ∀ {k : Nat}, k ≤ rs.length → alK base (rs ++ [c]) k = alK base rs k
  | 0, _ => rfl
  | k + 1, h => by
    unfold alK
    rw [List.getElem?_append_left (by omega), alK_app (by omega)]
theorem stA_le {st0 : Sto} {base : Nat} {rs : List Rc} {b : Nat → Bool} {M : List Nat} (h0 : ∀ i, base ≤ i → st0 i = none) (hM : ∀ j ∈ M, b j = true) : ∀ k, Le (stA st0 M (alK base rs k)) (stB st0 base rs b)
  | 0, i, o, h => by
    have hlt : ¬ base ≤ i := fun hb => by have h' : st0 i = some o := h; rw [h0 i hb] at h'; cases h'
    unfold stB
    rw [if_neg hlt]; exact h
  | k + 1, i, o, h => by
    unfold alK at h
    cases hr : (rs[k]?).bind (·.al) with
    | none => rw [hr] at h; exact stA_le h0 hM k i o h
    | some ob =>
      rw [hr] at h
      unfold stA at h
      split at h
      · rename_i hk
        unfold upd at h
        split at h
        · rename_i hi
          cases h
          subst hi
          unfold stB
          rw [if_pos (by omega), show base + k - base = k by omega, hM k (List.contains_iff_mem.1 hk)]
          exact hr
        · exact stA_le h0 hM k i o h
      · exact stA_le h0 hM k i o h
theorem stL_le {st0 : Sto} {base : Nat} {rs : List Rc} {b : Nat → Bool} (h0 : ∀ i, base ≤ i → st0 i = none) : ∀ k, (∀ j, j < k → b j = true) → Le (stL st0 (alK base rs k)) (stB st0 base rs b)
  | 0, _, i, o, h => by
    have hlt : ¬ base ≤ i := fun hb => by have h' : st0 i = some o := h; rw [h0 i hb] at h'; cases h'
    unfold stB
    rw [if_neg hlt]; exact h
  | k + 1, hb, i, o, h => by
    unfold alK at h
    cases hr : (rs[k]?).bind (·.al) with
    | none => rw [hr] at h; exact stL_le h0 k (fun j hj => hb j (by omega)) i o h
    | some ob =>
      rw [hr] at h
      unfold stL upd at h
      split at h
      · rename_i hi
        cases h
        subst hi
        unfold stB
        rw [if_pos (by omega), show base + k - base = k by omega, hb k (by omega)]
        exact hr
      · exact stL_le h0 k (fun j hj => hb j (by omega)) i o h
theorem stL_fresh {st0 : Sto} {base : Nat} {rs : List Rc} (h0 : ∀ i, base ≤ i → st0 i = none) : ∀ k j, k ≤ j → stL st0 (alK base rs k) (base + j) = none
  | 0, j, _ => h0 _ (by omega)
  | k + 1, j, hj => by
    unfold alK
    cases hr : (rs[k]?).bind (·.al) with
    | none => exact stL_fresh h0 k j (by omega)
    | some ob =>
      unfold stL upd
      rw [if_neg (by omega)]
      exact stL_fresh h0 k j (by omega)
end Go.Proofs.YtnafgpgbedcdnaaDoor.D.Pm
namespace Go.Proofs.YtnafgpgbedcdnaaDoor.D.Pm
set_option linter.unusedVariables false
set_option linter.unusedSimpArgs false
open Go
theorem onO_mono {α : Type} {o : Option α} {F F' : α → Prop} (hk : ∀ a, F a → F' a) (h : onO o F) : onO o F' := by
  cases o <;> first | exact h.elim | exact hk _ h
theorem onC_mono {r : AV} {F F' : AC → Prop} (hk : ∀ a, F a → F' a) (h : onC r F) : onC r F' := by
  cases r <;> first | exact h.elim | exact hk _ h
theorem onT_mono {r : AV} {F F' : Bool → Prop} (hk : ∀ a, F a → F' a) (h : onT r F) : onT r F' := by
  obtain ⟨b, h1, h2⟩ := onT_iff.1 h; exact onT_iff.2 ⟨b, h1, hk _ h2⟩
theorem onI_mono {r : AV} {F F' : IntKind → Int → Prop} (hk : ∀ a b, F a b → F' a b) (h : onI r F) : onI r F' := by
  unfold onI at h ⊢
  split at h <;> first | exact hk _ _ h | exact h.elim
theorem ev2_mono {env : Env} {x : Operand} {F F' : AC → Prop} (hk : ∀ a, F a → F' a) (h : ev2 env x F) : ev2 env x F' := onO_mono (fun _ => onC_mono hk) h
theorem slE_mono {d : D} {F F' : TypeId → Prop} (hk : ∀ a, F a → F' a) (h : slE d F) : slE d F' := by
  cases d <;> first | exact h.elim | exact hk _ h
theorem stE_mono {d : D} {F F' : List (Nat × TypeId) → Prop} (hk : ∀ a, F a → F' a) (h : stE d F) : stE d F' := by
  cases d <;> first | exact h.elim | exact hk _ h
theorem ite_mono {p : Prop} [Decidable p] {F F' : Prop} (hk : F → F') (h : if p then F else False) : if p then F' else False := by
  split at h
  · rename_i hp; rw [if_pos hp]; exact hk h
  · exact h.elim
theorem ite2_mono {p : Prop} [Decidable p] {F F' H H' : Prop} (hk : F → F') (hk2 : H → H') (h : if p then F else H) : if p then F' else H' := by
  split at h
  · rw [if_pos ‹_›]; exact hk h
  · rw [if_neg ‹_›]; exact hk2 h
theorem vcmp_mono {p : Prop} {K K' : AV → Prop} (hk : ∀ r, K r → K' r) (h : vcmp p K) : vcmp p K' := ⟨fun hp => hk _ (h.1 hp), fun hp => hk _ (h.2 hp)⟩
theorem vII_mono {op : BinOp} {k : IntKind} {a b : Int} {K K' : AV → Prop} (hk : ∀ r, K r → K' r) (h : vII op k a b K) : vII op k a b K' := by
  cases op <;> simp only [vII] at h ⊢ <;> first | exact h.elim | exact vcmp_mono hk h | exact hk _ h | exact ⟨h.1, hk _ h.2⟩
theorem vbin_mono {op : BinOp} {x y : AC} {K K' : AV → Prop} (hk : ∀ r, K r → K' r) (h : vbin op x y K) : vbin op x y K' := by
  unfold vbin at h ⊢
  split at h
  · split at h
    · exact ⟨h.1, hk _ h.2⟩
    · exact ⟨h.1, hk _ h.2⟩
    · exact ite_mono (fun h => vII_mono hk h) h
  · cases op <;> simp only [vSS] at h ⊢ <;> first | exact h.elim | exact vcmp_mono hk h | exact hk _ h | exact ⟨h.1, hk _ h.2⟩
  · split at h
    · simp only [onB_iff] at h ⊢; exact hk _ h
    · simp only [onB_iff] at h ⊢; exact hk _ h
    · exact h.elim
  · split at h
    · exact ite_mono (fun h => vnil_mono h (fun b => hk _)) h
    · exact ite_mono (fun h => vnil_mono h (fun b => hk _)) h
    · exact h.elim
theorem rdv_mono {st : Sto} {p : AC} {F F' : List AC → Prop} (hk : ∀ a, F a → F' a) (h : rdv st p F) : rdv st p F' := by
  obtain ⟨cs, h1, h2⟩ := rdv_det h; exact h2 st (Le.refl _) _ (hk _ h1)
theorem ixv_mono {st : Sto} {sz : Nat} {x : AC} {i : Int} {F F' : AC → Prop} (hk : ∀ a, F a → F' a) (h : ixv st sz x i F) : ixv st sz x i F' := by
  obtain ⟨cs, h1, h2⟩ := ixv_det h; exact h2 st (Le.refl _) _ (hk _ h1)
theorem ixa_mono {st : Sto} {sz m : Nat} {x : AC} {i : Int} {F F' : AC → Prop} (hk : ∀ a, F a → F' a) (h : ixa st sz m x i F) : ixa st sz m x i F' := by
  unfold ixa at h ⊢
  split at h
  · exact ⟨h.1, h.2.1, h.2.2.1, hk _ h.2.2.2⟩
  · exact h.elim
theorem cpy_mono {st : Sto} {sz : Nat} {x : AC} {ys : List (List AC)} {K K' : AV → Sto → Prop} (hk : ∀ r s, K r s → K' r s) (h : cpy st sz x ys K) : cpy st sz x ys K' := by
  unfold cpy at h ⊢
  split at h
  · exact hk _ _ h
  · obtain ⟨rows, h1, h2, h3⟩ := h; exact ⟨rows, h1, h2, hk _ _ h3⟩
  · exact h.elim
theorem vcvt_mono {T : TT} {src dst : TypeId} {x : AC} {st : Sto} {K K' : AC → Sto → Prop} (hk : ∀ r s, K r s → K' r s) (h : vcvt T src dst x st K) : vcvt T src dst x st K' := by
  unfold vcvt at h ⊢
  split at h
  · refine ⟨h.1, onO_mono (fun _ h => ?_) h.2⟩
    split at h
    · exact hk _ _ h
    · exact h.elim
  · refine onO_mono (fun _ h => ite_mono (fun h => onO_mono (fun _ h => ?_) h) h) h
    split at h
    · exact hk _ _ h
    · exact onO_mono (fun _ h => ite_mono (fun h => ⟨h.1, hk _ _ h.2⟩) h) h
    · exact h.elim
  · exact onO_mono (fun _ => slE_mono (fun _ => onO_mono (fun _ => onO_mono (fun _ => ite_mono (hk _ _))))) h
  · exact onO_mono (fun _ => slE_mono (fun _ => onO_mono (fun _ => onO_mono (fun _ => ite_mono (fun ⟨h1, s, h2, h3⟩ => ⟨h1, s, h2, hk _ _ h3⟩))))) h
  · refine onO_mono (fun _ => slE_mono (fun _ => onO_mono (fun _ => ite_mono (fun h => onO_mono (fun _ h => ?_) h)))) h
    split at h
    · obtain ⟨rows, s, h1, h2, h3, h4⟩ := h; exact ⟨rows, s, h1, h2, h3, hk _ _ h4⟩
    · obtain ⟨h1, h2, h0, rows, h3, h4, h5⟩ := h; exact ⟨h1, h2, h0, rows, h3, h4, hk _ _ h5⟩
    · exact h.elim
  · exact h.elim
theorem bnd_mono {env : Env} {lo hi : Option Operand} {n : Nat} {F F' : Nat → Nat → Prop} (hk : ∀ a b, F a b → F' a b) (h : bnd env lo hi n F) : bnd env lo hi n F' := by
  obtain ⟨l, m, h1, h2⟩ := bnd_det h; exact h2 _ (hk _ _ h1)
theorem srcv_mono {st : Sto} {sz : Nat} {y : AC} {F F' : List (List AC) → Prop} (hk : ∀ a, F a → F' a) (h : srcv st sz y F) : srcv st sz y F' := by
  unfold srcv at h ⊢
  split at h
  · exact ite_mono (hk _) h
  · obtain ⟨rows, h1, h2, h3⟩ := h; exact ⟨rows, h1, h2, hk _ h3⟩
  · exact hk _ h
  · exact ite_mono (hk _) h
  · exact h.elim
theorem wrv_mono {st : Sto} {p : AC} {vs : List AC} {F F' : Sto → Prop} (hk : ∀ a, F a → F' a) (h : wrv st p vs F) : wrv st p vs F' := by
  unfold wrv at h ⊢
  split at h
  · obtain ⟨cs, h1, h2, h3⟩ := h; exact ⟨cs, h1, h2, hk _ h3⟩
  · obtain ⟨sz, rows, r, h1, h2, h3, h4⟩ := h; exact ⟨sz, rows, r, h1, h2, h3, hk _ h4⟩
  · exact h.elim
theorem ntup_mono {r : AV} {F F' : Prop} (hk : F → F') (h : ntup r F) : ntup r F' := by
  cases r <;> first | exact h.elim | exact hk h
theorem vop_mono {P : Program} {T : TT} {env : Env} {st : Sto} {op : Op} {K K' : AV → Sto → Prop} (hk : ∀ r s, K r s → K' r s) (h : vop P T env st op K) : vop P T env st op K' := by
  cases op
  case move x => exact onO_mono (fun _ => hk _ _) h
  case assign x => exact onO_mono (fun _ => hk _ _) h
  case pick c x y => exact onO_mono (fun _ => onT_mono (fun b h => by cases b <;> exact onO_mono (fun _ => hk _ _) h)) h
  case alloc t =>
    refine onO_mono (fun _ h => ?_) h
    split at h
    · exact onO_mono (fun _ h => ⟨h.1, fun id hi => hk _ _ (h.2 id hi)⟩) h
    · exact fun id hi => hk _ _ (h id hi)
  case box t x => exact onO_mono (fun _ => ntup_mono (fun h id hi => hk _ _ (h id hi))) h
  case build t ps => exact onO_mono (fun _ => onO_mono (fun _ => onO_mono (fun _ => ite_mono (onO_mono (fun _ => hk _ _))))) h
  case buildSlice t n ps => exact onO_mono (fun _ => onO_mono (fun _ => slE_mono (fun _ => onO_mono (fun _ => ite_mono (onO_mono (fun _ h id hi => hk _ _ (h id hi))))))) h
  case load t p => exact ev2_mono (fun _ => rdv_mono (fun _ => onO_mono (fun _ => hk _ _))) h
  case store t p x => exact ev2_mono (fun _ => onO_mono (fun _ => onO_mono (fun _ => ntup_mono (ite_mono (wrv_mono (fun _ => hk _ _)))))) h
  case nilCheck x => exact ev2_mono (fun c h => by split at h <;> first | exact hk _ _ h | exact h.elim) h
  case binOp op t x y ty =>
    refine onO_mono (fun _ h => ?_) h
    split at h
    · exact ev2_mono (fun _ => onO_mono (fun _ => ite_mono (vbin_mono (fun _ => hk _ _)))) h
    · refine onO_mono (fun _ h => ?_) h
      split at h
      · refine onO_mono (fun _ => stE_mono (fun _ => eqP_mono (fun p h => ?_))) h
        unfold sBin at h ⊢
        split at h
        · exact vcmp_mono (fun _ => hk _ _) h
        · exact vcmp_mono (fun _ => hk _ _) h
        · exact h.elim
      · exact h.elim
    · exact h.elim
  case unOp op t x =>
    refine onO_mono (fun _ h => ?_) h
    split at h
    · exact onT_mono (fun _ => hk _ _) h
    · exact onI_mono (fun _ _ => hk _ _) h
    · exact h.elim
  case fieldAddr t x n => exact ev2_mono (fun _ => onO_mono (fun _ => stE_mono (fun _ => onO_mono (fun _ => onO_mono (fun _ => ite_mono (onO_mono (fun _ => hk _ _))))))) h
  case indexAddr t x y =>
    refine ev2_mono (fun _ => onO_mono (fun _ => onI_mono (fun _ _ => onO_mono (fun _ h => ?_)))) h
    split at h
    · exact onO_mono (fun _ => ixa_mono (fun _ => hk _ _)) h
    · exact slE_mono (fun _ => onO_mono (fun _ => ixv_mono (fun _ => hk _ _))) h
  case index t x y =>
    refine onO_mono (fun _ => onO_mono (fun _ => onI_mono (fun _ _ => onO_mono (fun _ h => ?_)))) h
    split at h
    · exact ite_mono (fun h => ⟨h.1, h.2.1, hk _ _ h.2.2⟩) h
    · unfold ayE at h ⊢
      split at h
      · exact onO_mono (fun _ h => ⟨h.1, h.2.1, onO_mono (fun _ => hk _ _) h.2.2⟩) h
      · exact h.elim
    · exact h.elim
  case extract x n =>
    refine onO_mono (fun _ h => ?_) h
    split at h
    · exact onO_mono (fun _ => hk _ _) h
    · exact h.elim
  case makeFunc fn first caps =>
    cases fn with
    | func f =>
      exact ite2_mono (onO_mono (fun _ => onO_mono (fun _ => hk _ _))) (ite_mono (onO_mono (fun _ h => by
        split at h
        · exact hk _ _ h
        · exact h.elim))) h
    | _ => exact h.elim
  case makeSlice t l c => exact onO_mono (fun _ => onI_mono (fun _ _ => onO_mono (fun _ => onI_mono (fun _ _ => onO_mono (fun _ => slE_mono (fun _ => onO_mono (fun _ ⟨h1, h2, h3, h4, h5, h6, h7⟩ => ⟨h1, h2, h3, h4, h5, h6, fun id hi => hk _ _ (h7 id hi)⟩))))))) h
  case slice t x lo hi mx =>
    cases mx with
    | some m => exact h.elim
    | none =>
      refine ev2_mono (fun _ => onO_mono (fun _ h => ?_)) h
      split at h
      · exact ite_mono (bnd_mono (fun _ _ => hk _ _)) h
      · exact slE_mono (fun _ => onO_mono (fun _ => ite_mono (bnd_mono (fun _ _ => hk _ _)))) h
      · exact slE_mono (fun _ => onO_mono (fun _ h => ⟨h.1, bnd_mono (fun _ _ => hk _ _) h.2⟩)) h
      · unfold ayE at h ⊢
        split at h
        · exact onO_mono (fun _ h => ⟨h.1, h.2.1, bnd_mono (fun _ _ => hk _ _) h.2.2⟩) h
        · exact h.elim
      · exact h.elim
  case convert s d x =>
    exact ev2_mono (fun _ => vcvt_mono (fun _ _ => hk _ _)) h
  case call c =>
    obtain ⟨callee, args, ats⟩ := c
    cases callee with
    | value f =>
      refine ev2_mono (fun _ h => ?_) h
      split at h
      · exact onO_mono (fun _ h => h.mono hk) h
      · obtain ⟨g, x, e, h⟩ := h; exact ⟨g, x, e, onO_mono (fun _ h => h.mono hk) h⟩
      · exact h.elim
    | builtin b =>
      have h : vblt T env st b ats.toList args.toList K := h
      show vblt T env st b ats.toList args.toList K'
      unfold vblt at h ⊢
      split at h
      · exact ev2_mono (fun _ => onO_mono (fun _ => onO_mono (fun _ => ite_mono (hk _ _)))) h
      · refine ev2_mono (fun _ => ev2_mono (fun _ => onO_mono (fun _ => onO_mono (fun _ => slE_mono (fun _ => onO_mono (fun _ => ite_mono (srcv_mono (fun _ h => ⟨?_⟩)))))))) h
        replace h := h.out
        split at h
        · exact ⟨h.1, h.2.1, fun e => hk _ _ (h.2.2.1 e), fun e id hi => hk _ _ (h.2.2.2 e id hi)⟩
        · obtain ⟨h1, rows, h2, h3, h4, h5, h6⟩ := h
          exact ⟨h1, rows, h2, h3, h4, h5, fun id hi => hk _ _ (h6 id hi)⟩
        · exact h.elim
      · exact ev2_mono (fun _ => ev2_mono (fun _ => onO_mono (fun _ => onO_mono (fun _ => slE_mono (fun _ => onO_mono (fun _ => ite_mono (srcv_mono (fun _ => cpy_mono hk)))))))) h
      · exact onO_mono (fun _ => onO_mono (fun _ => onI_mono (fun _ _ => onI_mono (fun _ _ => ite_mono (hk _ _))))) h
      · exact h.elim
    | invoke _ _ => exact h.elim
  all_goals exact h.elim
theorem alOb_congr {T : TT} {env env' : Env} {op : Op} (h : ∀ x ∈ op.operands, ev env x = ev env' x) {r : Ob × (Nat → AV)} (ha : alOb T env op = some r) : alOb T env' op = some r := by
  cases op <;> simp only [alOb] at ha ⊢ <;> first | cases ha | exact ha | skip
  case box t x => rw [← h x (by simp [Op.operands])]; exact ha
  case buildSlice t n ps =>
    have hp : ∀ x ∈ ps.toList, ev env x.2 = ev env' x.2 := fun x hx => h x.2 (by simp only [Op.operands, List.mem_toArray, List.mem_map]; exact ⟨x, hx, rfl⟩)
    rw [← parts_congr hp]; exact ha
end Go.Proofs.YtnafgpgbedcdnaaDoor.D.Pm
namespace Go.Proofs.YtnafgpgbedcdnaaDoor.D.Pm
set_option linter.unusedVariables false
set_option linter.unusedSimpArgs false
open Go
section
variable (P : Program) (T : TT) (N : Nat) (ops : Array Oper) (M : List (List Nat)) (st0 : Sto) (base : Nat) (env0 : Env)
/-- what is known of operation k -/
def Fact (rs : List Rc) (k : Nat) : Prop :=
  ∃ o c, ops[k]? = some o ∧ rs[k]? = some c ∧
    ((∃ j want d r, o.guard = some (j, want) ∧ (ops[j]?).bind (·.dst) = some d ∧ look (envK N ops env0 rs (fun _ => true) k) d = some r ∧ notIs r want ∧ c = ⟨.t [], none⟩) ∨
     ((o.guard = none ∨ ∃ j want d, o.guard = some (j, want) ∧ (ops[j]?).bind (·.dst) = some d ∧ look (envK N ops env0 rs (fun _ => true) k) d = some (.c (.v (.bool want)))) ∧
      ((∃ ob f, alOb T (envK N ops env0 rs (fun _ => true) k) o.op = some (ob, f) ∧ c = ⟨f (base + k), some ob⟩) ∨
       (c.al = none ∧ ∀ st', Le (stA st0 (M.getD k []) (alK base rs k)) st' → vop P T (envK N ops env0 rs (fun _ => true) k) st' o.op fun r' s => r' = c.r ∧ s = st'))))
end
variable {P : Program} {T : TT} {N : Nat} {ops : Array Oper} {M : List (List Nat)} {st0 : Sto} {base : Nat} {env0 : Env}
theorem Fact.app {rs : List Rc} {c : Rc} {k : Nat} (hk : k < rs.length) (h : Fact P T N ops M st0 base env0 rs k) : Fact P T N ops M st0 base env0 (rs ++ [c]) k := by
  unfold Fact at h ⊢
  rw [envK_app (by omega), alK_app (by omega), List.getElem?_append_left hk]
  exact h
theorem plan {Q : Env → Sto → Prop} (h0 : ∀ i, base ≤ i → st0 i = none) : ∀ (l : List Oper) (i : Nat) (rs : List Rc), rs.length = i → ops.toList.drop i = l → (∀ k, k < i → Fact P T N ops M st0 base env0 rs k) →
    vdraw P T N ops M st0 Q i l (envK N ops env0 rs (fun _ => true) i) (alK base rs i) →
    ∃ rs', rs'.length = ops.size ∧ (∀ k, k < ops.size → Fact P T N ops M st0 base env0 rs' k) ∧ Q (envK N ops env0 rs' (fun _ => true) ops.size) (stL st0 (alK base rs' ops.size))
  | [], i, rs, hl, hd, hf, h => by
    have hn : ops.size ≤ i := by
      have := congrArg List.length hd
      simp at this; omega
    by_cases he : i = ops.size
    · subst he; exact ⟨rs, hl, hf, h⟩
    · obtain ⟨o, c, ho, _⟩ := hf ops.size (by omega)
      simp at ho
  | o :: l, i, rs, hl, hd, hf, h => by
    have ho : ops[i]? = some o := by
      have := congrArg (·[0]?) hd
      simpa [List.getElem?_drop] using this
    have hd' : ops.toList.drop (i + 1) = l := by rw [← List.drop_drop, hd]; rfl
    have hi : i < ops.size := (Array.getElem?_eq_some_iff.1 ho).1
    -- one more
    have step : ∀ c : Rc, (Fact P T N ops M st0 base env0 (rs ++ [c]) i) → vdraw P T N ops M st0 Q (i + 1) l (put N (envK N ops env0 rs (fun _ => true) i) o.dst c.r) (match c.al with | some ob => (i, base + i, ob) :: alK base rs i | none => alK base rs i) →
        ∃ rs', rs'.length = ops.size ∧ (∀ k, k < ops.size → Fact P T N ops M st0 base env0 rs' k) ∧ Q (envK N ops env0 rs' (fun _ => true) ops.size) (stL st0 (alK base rs' ops.size)) := by
      intro c hfc hv
      refine plan h0 l (i + 1) (rs ++ [c]) (by simp [hl]) hd' (fun k hk => ?_) ?_
      · by_cases hki : k = i
        · subst hki; exact hfc
        · exact (hf k (by omega)).app (by omega)
      · have hc : (rs ++ [c])[i]? = some c := by rw [List.getElem?_append_right (by omega), hl]; simp
        have e1 : envK N ops env0 (rs ++ [c]) (fun _ => true) (i + 1) = put N (envK N ops env0 rs (fun _ => true) i) o.dst c.r := by
          conv => lhs; unfold envK
          rw [ho, hc]
          dsimp only
          rw [envK_app (by omega)]
        have e2 : alK base (rs ++ [c]) (i + 1) = (match c.al with | some ob => (i, base + i, ob) :: alK base rs i | none => alK base rs i) := by
          conv => lhs; unfold alK
          rw [hc, alK_app (by omega), Option.bind_some]
          all_goals (cases c.al <;> rfl)
        rw [e1, e2]
        exact hv
    have hgi : ∀ c : Rc, (rs ++ [c])[i]? = some c := fun c => by rw [List.getElem?_append_right (by omega), hl]; simp
    have hek : ∀ c : Rc, envK N ops env0 (rs ++ [c]) (fun _ => true) i = envK N ops env0 rs (fun _ => true) i := fun c => envK_app (by omega)
    have hak : ∀ c : Rc, alK base (rs ++ [c]) i = alK base rs i := fun c => alK_app (by omega)
    have run : ∀ (hg : o.guard = none ∨ ∃ j want d, o.guard = some (j, want) ∧ (ops[j]?).bind (·.dst) = some d ∧ look (envK N ops env0 rs (fun _ => true) i) d = some (.c (.v (.bool want)))),
        (match alOb T (envK N ops env0 rs (fun _ => true) i) o.op with
        | some (ob, f) => ∀ id, stL st0 (alK base rs i) id = none → vdraw P T N ops M st0 Q (i + 1) l (put N (envK N ops env0 rs (fun _ => true) i) o.dst (f id)) ((i, id, ob) :: alK base rs i)
        | none => vone P T (stA st0 (M.getD i []) (alK base rs i)) (envK N ops env0 rs (fun _ => true) i) o.op fun r => vdraw P T N ops M st0 Q (i + 1) l (put N (envK N ops env0 rs (fun _ => true) i) o.dst r) (alK base rs i)) →
        ∃ rs', rs'.length = ops.size ∧ (∀ k, k < ops.size → Fact P T N ops M st0 base env0 rs' k) ∧ Q (envK N ops env0 rs' (fun _ => true) ops.size) (stL st0 (alK base rs' ops.size)) := by
      intro hg hr
      cases ha : alOb T (envK N ops env0 rs (fun _ => true) i) o.op with
      | some p =>
        obtain ⟨ob, f⟩ := p
        rw [ha] at hr
        refine step ⟨f (base + i), some ob⟩ ⟨o, _, ho, hgi _, .inr ⟨?_, .inl ⟨ob, f, ?_, rfl⟩⟩⟩ (hr _ (stL_fresh h0 i i (Nat.le_refl _)))
        · rw [hek]; exact hg
        · rw [hek]; exact ha
      | none =>
        rw [ha] at hr
        obtain ⟨r, h1, h2⟩ := vone_det hr
        refine step ⟨r, none⟩ ⟨o, _, ho, hgi _, .inr ⟨?_, .inr ⟨rfl, ?_⟩⟩⟩ h1
        · rw [hek]; exact hg
        · rw [hek, hak]; exact h2
    unfold vdraw at h
    cases hgd : o.guard with
    | none =>
      rw [hgd] at h
      exact run (.inl hgd) h
    | some jw =>
      obtain ⟨j, want⟩ := jw
      rw [hgd] at h
      dsimp only at h
      obtain ⟨d, h1, hh1⟩ := onO_iff.1 h
      obtain ⟨r, h2, hh2⟩ := onO_iff.1 hh1
      rcases onG_ok hh2 with ⟨⟨l, rfl⟩, hh⟩ | ⟨b, rfl, hh⟩
      · exact step ⟨.t [], none⟩ ⟨o, _, ho, hgi _, .inl ⟨j, want, d, _, hgd, h1, by rw [hek]; exact h2, .inr ⟨l, rfl⟩, rfl⟩⟩ hh
      · by_cases hbw : b = want
        · rw [if_pos hbw] at hh
          exact run (.inr ⟨j, want, d, hgd, h1, hbw ▸ h2⟩) hh
        · rw [if_neg hbw] at hh
          exact step ⟨.t [], none⟩ ⟨o, _, ho, hgi _, .inl ⟨j, want, d, _, hgd, h1, by rw [hek]; exact h2, .inl ⟨b, rfl, hbw⟩, rfl⟩⟩ hh
/-- a set of operations, with one more -/
theorem filter_lt {p q : Nat → Bool} : ∀ {l : List Nat} {i : Nat}, i ∈ l → p i = true → q i = false → (∀ j, q j = true → p j = true) → (l.filter q).length < (l.filter p).length
  | a :: l, i, hi, hp, hq, h => by
    have le : ∀ l : List Nat, (l.filter q).length ≤ (l.filter p).length := by
      intro l
      induction l with
      | nil => simp
      | cons a l ih =>
        simp only [List.filter_cons]
        cases hqa : q a
        · cases p a <;> simp <;> omega
        · rw [h a hqa]; simp; exact ih
    simp only [List.filter_cons]
    rcases List.mem_cons.1 hi with rfl | hi
    · rw [hp, hq]; simp; exact Nat.lt_succ_of_le (le l)
    · have ih := filter_lt hi hp hq h
      cases hqa : q a
      · cases p a <;> simp <;> omega
      · rw [h a hqa]; simp; exact ih
def bUp (b : Nat → Bool) (i : Nat) : Nat → Bool := fun j => if j = i then true else b j
theorem drawOk_parts (h : drawOk ops M = true) : ancOk ops M = true ∧ ∀ i o, ops[i]? = some o → (∀ d, o.dst = some d → ∀ j, (ops[j]?).bind (·.dst) = some d → j = i) ∧ ∀ t ∈ o.looksAt ops, ∀ j, (ops[j]?).bind (·.dst) = some t → j ∈ M.getD i [] ∨ i ∈ M.getD j [] := by
  unfold drawOk at h
  rw [Bool.and_eq_true] at h
  refine ⟨h.1, fun i o ho => ?_⟩
  have hi : i < ops.size := (Array.getElem?_eq_some_iff.1 ho).1
  have h2 := List.all_eq_true.1 h.2 i (List.mem_range.2 hi)
  rw [ho] at h2
  dsimp only at h2
  rw [Bool.and_eq_true] at h2
  have mem : ∀ t j, (ops[j]?).bind (·.dst) = some t → j ∈ dsts ops t := fun t j hj => by
    have hlt : j < ops.size := by
      cases hq : ops[j]? with
      | none => rw [hq] at hj; cases hj
      | some q => exact (Array.getElem?_eq_some_iff.1 hq).1
    exact List.mem_filter.2 ⟨List.mem_range.2 hlt, by rw [hj]; simp⟩
  refine ⟨fun d hd j hj => ?_, fun t ht j hj => ?_⟩
  · have h3 := h2.1
    rw [hd] at h3
    have h4 : dsts ops d = [i] := by simpa using h3
    have := mem d j hj
    rw [h4] at this
    simpa using this
  · have h3 := List.all_eq_true.1 h2.2 t ht
    have h4 := List.all_eq_true.1 h3 j (mem t j hj)
    rw [Bool.or_eq_true, List.contains_iff_mem, List.contains_iff_mem] at h4
    exact h4
theorem looks_op {o : Oper} {t : Tmp} (h : Operand.tmp t ∈ o.op.operands) : t ∈ o.looksAt ops := by
  unfold Oper.looksAt
  refine List.mem_append.2 (.inl (List.mem_filterMap.2 ⟨_, Array.mem_toList_iff.2 h, rfl⟩))
theorem looks_guard {o : Oper} {j : Nat} {want : Bool} {d : Tmp} (hg : o.guard = some (j, want)) (hd : (ops[j]?).bind (·.dst) = some d) : d ∈ o.looksAt ops := by
  unfold Oper.looksAt
  rw [hg]
  refine List.mem_append.2 (.inr ?_)
  dsimp only
  rw [hd]
  simp
theorem hole {G : Gh} {w : World} {st : Sto} (hI : Inv G w st) (p : Nat → Prop) : Inv ⟨G.U, fun i => G.R i ∧ p i, G.b, G.X, G.B⟩ w st ∧ ExtS G w ⟨G.U, fun i => G.R i ∧ p i, G.b, G.X, G.B⟩ w := by
  have hx : ExtS G w ⟨G.U, fun i => G.R i ∧ p i, G.b, G.X, G.B⟩ w := ⟨Nat.le_refl _, fun _ h => h, fun _ h => h, fun _ _ => rfl, fun _ _ => .inr rfl, fun _ _ _ _ _ cs e h => ⟨cs, h, rfl⟩⟩
  refine ⟨⟨fun id o ho => ?_, hI.lt, hI.inj, hI.X, ?_⟩, hx⟩
  · obtain ⟨g, sz, cs, e, a, b, c, d, f, k⟩ := hI.obj id o ho
    exact ⟨g, sz, cs, e, a, b, c, d, f, fun j x v p q => (k j x v p q).exts hx⟩
  · obtain ⟨n, hn⟩ := hI.new
    exact ⟨n, fun i hi => hn i (hi.imp id (fun h => h.1))⟩
/-- operations in whichever order -/
theorem draw_any {ρ : Option Nat} (TP : TOk P T) (hok : drawOk ops M = true) {rs : List Rc} (hrs : rs.length = ops.size) (hf : ∀ k, k < ops.size → Fact P T N ops M st0 base env0 rs k) (h0 : ∀ i, base ≤ i → st0 i = none) {Q : Exit → Act → World → Prop}
    {G0 : Gh} {w0 : World} (hb0 : ∀ i, base ≤ i → ¬ G0.R i) (fin : ∀ G w a, Ext G0 w0 G w → Inv G w (stB st0 base rs (fun _ => true)) → RE N G w (envK N ops env0 rs (fun _ => true) ops.size) a → Q .normal a w) :
    ∀ (fuel : Nat) (listed : Array Bool) (b : Nat → Bool), listed.size = ops.size → (∀ i, i < ops.size → listed.getD i true = b i) → (∀ i, i < ops.size → b i = true → ∀ d ∈ edg ops i, b d = true) → ((List.range ops.size).filter fun i => !b i).length ≤ fuel →
      ∀ G w a, Ext G0 w0 G w → Inv G w (stB st0 base rs b) → (∀ k, k < ops.size → b k = false → ¬ G.U (base + k) ∧ G.R (base + k)) → RE N G w (envK N ops env0 rs b ops.size) a → wpAnyIn (fen ρ) 7 P .any ops Q fuel listed a w := by
  obtain ⟨hanc, hpar⟩ := drawOk_parts hok
  -- nothing is ready: all has been
  have allDone : ∀ (listed : Array Bool) (b : Nat → Bool), listed.size = ops.size → (∀ i, i < ops.size → listed.getD i true = b i) → Region.ready .any ops listed = [] → ∀ i, i < ops.size → b i = true := by
    intro listed b hsz hlb hr i
    induction i using Nat.strongRecOn with
    | _ i ih =>
      intro hi
      cases hb : b i with
      | true => rfl
      | false =>
        have : i ∈ Region.ready .any ops listed := edg_ready.2 ⟨hi, by rw [hlb i hi]; exact hb, fun d hd => by
          have hdi := (ancOk_lt hanc hi).1 d hd
          have := hlb d (by omega)
          rw [ih d hdi (by omega)] at this
          have hds : d < listed.size := by omega
          rw [Array.getD_eq_getD_getElem?, Array.getElem?_eq_getElem hds] at this ⊢
          exact this⟩
        rw [hr] at this
        cases this
  have done : ∀ (listed : Array Bool) (b : Nat → Bool), listed.size = ops.size → (∀ i, i < ops.size → listed.getD i true = b i) → Region.ready .any ops listed = [] → ∀ G w a, Ext G0 w0 G w → Inv G w (stB st0 base rs b) → RE N G w (envK N ops env0 rs b ops.size) a → Q .normal a w := by
    intro listed b hsz hlb hr G w a hX hI hE
    have hall := allDone listed b hsz hlb hr
    refine fin G w a hX (hI.le fun i o h => ?_) ⟨hE.size, hE.defers, fun t r h => hE.at_ t r ?_⟩
    · unfold stB at h ⊢
      split at h
      · rename_i hbi
        rw [if_pos hbi]
        dsimp only at h
        have hlt : i - base < ops.size := by
          cases hq : rs[i - base]? with
          | none => rw [hq] at h; cases h
          | some q => rw [← hrs]; exact (List.getElem?_eq_some_iff.1 hq).1
        rw [hall _ hlt]
        exact h
      · rename_i hbi
        rw [if_neg hbi]; exact h
    · rw [look_envK ops.size (b' := fun _ => true) (fun j hj _ => hall j hj)]
      exact h
  intro fuel
  induction fuel with
  | zero =>
    intro listed b hsz hlb hdc hfu G w a hX hI hfr hE
    have hr : Region.ready .any ops listed = [] := by
      rw [List.eq_nil_iff_forall_not_mem]
      intro i hi
      obtain ⟨h1, h2, _⟩ := edg_ready.1 hi
      have : i ∈ (List.range ops.size).filter fun i => !b i := List.mem_filter.2 ⟨List.mem_range.2 h1, by rw [← hlb i h1, h2]; rfl⟩
      rw [List.eq_nil_of_length_eq_zero (Nat.le_zero.1 hfu)] at this
      cases this
    exact ⟨hr, done listed b hsz hlb hr G w a hX hI hE⟩
  | succ fuel ih =>
    intro listed b hsz hlb hdc hfu G w a hX hI hfr hE
    refine ⟨fun hr => done listed b hsz hlb hr G w a hX hI hE, fun i hi => ?_⟩
    obtain ⟨hin, hli, hdeps⟩ := edg_ready.1 hi
    have hbi : b i = false := by rw [← hlb i hin]; exact hli
    have hdep : ∀ d ∈ edg ops i, b d = true := fun d hd => by
      have hdi := (ancOk_lt hanc hin).1 d hd
      have h1 := hdeps d hd
      rw [← hlb d (by omega)]
      have hds : d < listed.size := by omega
      rw [Array.getD_eq_getD_getElem?, Array.getElem?_eq_getElem hds] at h1 ⊢
      exact h1
    have hM : ∀ j ∈ M.getD i [], b j = true := anc_in hanc (b := fun j => b j = true) hdc i hin hdep
    obtain ⟨o, c, ho, hc, hfact⟩ := hf i hin
    obtain ⟨hdst, hlook⟩ := hpar i o ho
    -- the slots that the operation looks at
    have same : ∀ t ∈ o.looksAt ops, look (envK N ops env0 rs b ops.size) t = look (envK N ops env0 rs (fun _ => true) i) t := by
      intro t ht
      rw [← envK_le (b := fun j => decide (j < i)) (k := i) (n := ops.size) (by omega) (fun j h1 _ _ => decide_eq_false (by omega)) |>.trans (look_envK i (b' := fun _ => true) (fun j hj _ => decide_eq_true hj))]
      refine look_envK ops.size (fun j hj hjd => ?_)
      rcases hlook t ht j hjd with h | h
      · rw [hM j h, decide_eq_true ((ancOk_lt hanc hin).2 j h).1]
      · have hlt := ((ancOk_lt hanc hj).2 i h).1
        rw [decide_eq_false (by omega)]
        cases hbj : b j with
        | false => rfl
        | true =>
          have := anc_in hanc (b := fun j => b j = true) hdc j hj (hdc j hj hbj) i h
          rw [hbi] at this; cases this
    have sameEv : ∀ x ∈ o.op.operands, ev (envK N ops env0 rs (fun _ => true) i) x = ev (envK N ops env0 rs b ops.size) x := fun x hx => by
      cases x with
      | tmp t => exact (same t (looks_op hx)).symm
      | _ => rfl
    -- behind it
    have next : ∀ (G' : Gh) (w' : World) (a' : Act), Ext G0 w0 G' w' → Inv G' w' (stB st0 base rs (bUp b i)) → (∀ k, k < ops.size → bUp b i k = false → ¬ G'.U (base + k) ∧ G'.R (base + k)) → RE N G' w' (put N (envK N ops env0 rs b ops.size) o.dst c.r) a' → wpAnyIn (fen ρ) 7 P .any ops Q fuel (listed.setIfInBounds i true) a' w' := by
      intro G' w' a' hX' hI' hfr' hp
      refine ih _ (bUp b i) (by simp [hsz]) (fun k hk => ?_) (fun k hk hbk d hd => ?_) ?_ G' w' _ hX' hI' hfr' ?_
      · unfold bUp
        by_cases hki : k = i
        · subst hki
          have hks : k < listed.size := by omega
          simp [Array.getD_eq_getD_getElem?, hks]
        · rw [if_neg hki, ← hlb k hk]
          simp [Array.getD_eq_getD_getElem?, Array.getElem?_setIfInBounds_ne (Ne.symm hki)]
      · unfold bUp at hbk ⊢
        by_cases hki : k = i
        · subst hki
          by_cases hdk : d = k
          · rw [if_pos hdk]
          · rw [if_neg hdk]; exact hdep d hd
        · rw [if_neg hki] at hbk
          by_cases hdk : d = i
          · rw [if_pos hdk]
          · rw [if_neg hdk]; exact hdc k hk hbk d hd
      · have : ((List.range ops.size).filter fun j => !bUp b i j).length < ((List.range ops.size).filter fun j => !b j).length := by
          refine filter_lt (List.mem_range.2 hin) (by rw [hbi]; rfl) (by unfold bUp; rw [if_pos rfl]; rfl) (fun j hj => ?_)
          unfold bUp at hj
          split at hj
          · cases hj
          · exact hj
        omega
      · refine ⟨hp.size, hp.defers, fun t r ht => hp.at_ t r ?_⟩
        rw [← ht]
        by_cases hd : o.dst = some t
        · -- this operation's own slot
          have e1 : look (envK N ops env0 rs (bUp b i) ops.size) t = look (envK N ops env0 rs (bUp b i) (i + 1)) t := envK_le (by omega) (fun j h1 h2 hj => by have := hdst t hd j hj; omega)
          have e2 : envK N ops env0 rs (bUp b i) (i + 1) = put N (envK N ops env0 rs (bUp b i) i) o.dst c.r := by
            have hbb : bUp b i i = true := by unfold bUp; rw [if_pos rfl]
            conv => lhs; unfold envK
            rw [ho, hc]
            dsimp only
            rw [hbb]
          rw [e1, e2, hd, look_put_same, look_put_same]
          split
          · rfl
          · have e3 : look (envK N ops env0 rs b ops.size) t = look (envK N ops env0 rs b i) t := envK_le (by omega) (fun j h1 h2 hj => by have := hdst t hd j hj; subst this; exact hbi)
            rw [e3]
            exact look_envK i (fun j hj _ => by unfold bUp; rw [if_neg (by omega)])
        · rw [look_put hd]
          exact look_envK ops.size (fun j hj hjd => by
            unfold bUp
            rw [if_neg (fun e => by subst e; rw [ho] at hjd; exact hd hjd)])
    have stSame : c.al = none → stB st0 base rs (bUp b i) = stB st0 base rs b := by
      intro hcal
      funext k
      unfold stB
      split
      · by_cases hk : k - base = i
        · have e : (rs[k - base]?).bind (·.al) = none := by rw [hk, hc]; exact hcal
          rw [e]
          cases bUp b i (k - base) <;> cases b (k - base) <;> rfl
        · unfold bUp; rw [if_neg hk]
      · rfl
    have frSame : ∀ k, k < ops.size → bUp b i k = false → ¬ G.U (base + k) ∧ G.R (base + k) := fun k hk hb => hfr k hk (by
      unfold bUp at hb
      split at hb
      · cases hb
      · exact hb)
    unfold wpOpIn
    rw [ho]
    dsimp only
    rcases hfact with ⟨j, want, d, bb, hg, hd, hl, hne, hcc⟩ | ⟨hg, hrun⟩
    · -- skipped
      rw [← same d (looks_guard hg hd)] at hl
      obtain ⟨v, h3, h4⟩ := hE.at_ _ _ hl
      have hw : ¬ (Region.wanted o (yielded ops a.tmps) = true) := by
        rcases hne with ⟨b1, rfl, hne⟩ | ⟨l, rfl⟩
        · have hv : v = .bool b1 := by have := h4.cel; cases this; rfl
          subst hv
          have hy : yielded ops a.tmps j = some b1 := by simp [yielded, hd, h3]
          simp [Region.wanted, hg, hy, hne]
        · have hv : ∃ vs, v = .tuple vs := by cases h4; exact ⟨_, rfl⟩
          obtain ⟨vs, rfl⟩ := hv
          have hy : yielded ops a.tmps j = none := by simp [yielded, hd, h3]
          simp [Region.wanted, hg, hy]
      rw [if_neg hw]
      refine ⟨fun _ _ => trivial, next G w _ hX (by rw [stSame (by rw [hcc])]; exact hI) frSame (hE.put ?_ _)⟩
      rw [hcc]
      exact .t [] _ rfl (fun j x v h _ => by simp at h)
    · have hw : Region.wanted o (yielded ops a.tmps) = true := by
        rcases hg with hg | ⟨j, want, d, hg, hd, hl⟩
        · simp [Region.wanted, hg]
        · rw [← same d (looks_guard hg hd)] at hl
          obtain ⟨v, h3, h4⟩ := hE.at_ _ _ hl
          have hv : v = .bool want := by have := h4.cel; cases this; rfl
          subst hv
          have hy : yielded ops a.tmps j = some want := by simp [yielded, hd, h3]
          simp [Region.wanted, hg, hy]
      rw [if_pos hw]
      rcases hrun with ⟨ob, f, hal, hcc⟩ | ⟨hcal, hv⟩
      · obtain ⟨hI1, hx1⟩ := hole hI (fun j => j ≠ base + i)
        have hE1 := hE.exts hx1 rfl
        have hal' : alOb T (envK N ops env0 rs b ops.size) o.op = some (ob, f) := alOb_congr sameEv hal
        obtain ⟨v, w', sz, h1, h2, h3, h4⟩ := alOb_ok TP hal' hI1 hE1 (base + i) ⟨(hfr i hin hbi).1, fun h => h.2 rfl⟩
        refine wpV h1 ?_
        refine next _ w' _ ⟨hX.toExtS.trans (hx1.trans h2.toExtS), fun j hj => h2.R j ⟨hX.R j hj, fun e => hb0 j (by omega) hj⟩, fun j hj hu => hX.res j hj (h2.res j ⟨hX.R j hj, fun e => hb0 j (by omega) hj⟩ hu), ⟨h2.out.1.trans hX.out.1, h2.out.2.1.trans hX.out.2.1, h2.out.2.2.trans hX.out.2.2⟩, h2.B.trans hX.B⟩ ?_ (fun k hk hb => ?_) ((hE1.ext h2).put (by rw [hcc]; exact h4) _)
        · have e : upd (stB st0 base rs b) (base + i) ob = stB st0 base rs (bUp b i) := by
            funext k
            unfold upd stB
            by_cases hk : k = base + i
            · subst hk
              have hbb : bUp b i i = true := by unfold bUp; rw [if_pos rfl]
              rw [if_pos rfl, if_pos (by omega), show base + i - base = i by omega, hc, hbb]
              dsimp only
              rw [hcc]; rfl
            · rw [if_neg hk]
              split
              · have hbb : bUp b i (k - base) = b (k - base) := by unfold bUp; rw [if_neg (by omega)]
                rw [hbb]
              · rfl
          rw [← e]; exact h3
        · have hki : k ≠ i := fun e => by
            subst e
            unfold bUp at hb
            rw [if_pos rfl] at hb
            cases hb
          obtain ⟨k1, k2⟩ := frSame k hk hb
          refine ⟨fun hU => ?_, k2, by omega⟩
          rcases hU with hU | hU
          · exact k1 hU
          · omega
      · have hvb := hv (stB st0 base rs b) (stA_le h0 hM i)
        have hvb' := vop_congr sameEv hvb
        have hop := vop_ok TP (N := N) (o := o) (K := fun env' s => env' = put N (envK N ops env0 rs b ops.size) o.dst c.r ∧ s = stB st0 base rs b) (vop_mono (fun r s h => ⟨by rw [h.1], h.2⟩) hvb')
        refine Oper.wpIn_mono ?_ (hop ρ G w a hI hE Q)
        rintro a' w' ⟨G', env', st', ⟨rfl, rfl⟩, h2, h3, h4⟩
        refine next G' w' a' (hX.trans h2) (by rw [stSame hcal]; exact h3) (fun k hk hb => ?_) h4
        obtain ⟨k1, k2⟩ := frSame k hk hb
        exact ⟨fun hU => k1 (h2.res _ k2 hU), h2.R _ k2⟩
/-- a region that draws its order -/
theorem Pw.draw {ρ : Option Nat} (TP : TOk P T) (M : List (List Nat)) (hm : P.follows .mixedOrders = true) {id : Nat} (hok : drawOk ops M = true) {Q : Exit → Env → Sto → Prop} {env : Env} {st : Sto} (h : vdraw P T N ops M st (Q .normal) 0 ops.toList env []) : Pw (ρ := ρ) P N (.region id ops true) Q env st := ⟨fun G w a hI hE => by
  refine wpIn_region_any hm ?_
  have hI' : Inv G { w with drawn := w.drawn + 1 } st := Inv.heap (w := w) (w' := { w with drawn := w.drawn + 1 }) rfl hI
  have hX0 : Ext G w G { w with drawn := w.drawn + 1 } := Ext.heap (w := w) (w1 := w) (w' := { w with drawn := w.drawn + 1 }) rfl ⟨rfl, rfl, rfl⟩ (Ext.refl G w)
  have hE' := hE.ext hX0
  obtain ⟨base, hbase⟩ := hI'.new
  have h0 : ∀ i, base ≤ i → st i = none := fun i hi => hI'.unused (fun hu => absurd (hbase i (.inl hu)) (by omega))
  obtain ⟨rs, h1, h2, h3⟩ := plan (P := P) (T := T) (N := N) (ops := ops) (M := M) (base := base) (env0 := env) h0 ops.toList 0 [] rfl rfl (fun k hk => absurd hk (Nat.not_lt_zero k)) h
  -- names kept free
  have hG1 : Inv ⟨G.U, fun i => G.R i ∨ (base ≤ i ∧ i < base + ops.size), G.b, G.X, G.B⟩ { w with drawn := w.drawn + 1 } st ∧ Ext G { w with drawn := w.drawn + 1 } ⟨G.U, fun i => G.R i ∨ (base ≤ i ∧ i < base + ops.size), G.b, G.X, G.B⟩ { w with drawn := w.drawn + 1 } := by
    have hx : Ext G { w with drawn := w.drawn + 1 } ⟨G.U, fun i => G.R i ∨ (base ≤ i ∧ i < base + ops.size), G.b, G.X, G.B⟩ { w with drawn := w.drawn + 1 } :=
      ⟨⟨Nat.le_refl _, fun _ h => h, fun _ h => h, fun _ _ => rfl, fun _ _ => .inr rfl, fun _ _ _ _ _ cs e h => ⟨cs, h, rfl⟩⟩, fun _ h => .inl h, fun _ _ h => h, ⟨rfl, rfl, rfl⟩, rfl⟩
    refine ⟨⟨fun id o ho => ?_, hI'.lt, hI'.inj, hI'.X, ⟨base + ops.size, fun i hi => ?_⟩⟩, hx⟩
    · obtain ⟨g, sz, cs, e, a, b, c, d, f, k⟩ := hI'.obj id o ho
      exact ⟨g, sz, cs, e, a, b, c, d, f, fun j x v p q => (k j x v p q).ext hx⟩
    · rcases hi with hi | hi | hi
      · have := hbase i (.inl hi); omega
      · have := hbase i (.inr hi); omega
      · omega
  obtain ⟨hI1, hX1⟩ := hG1
  have key := draw_any (ρ := ρ) TP hok h1 h2 h0 (Q := fun e a' w' => ∃ G' env' st', Q e env' st' ∧ Ext G w G' w' ∧ Inv G' w' st' ∧ RE N G' w' env' a') (G0 := G) (w0 := { w with drawn := w.drawn + 1 }) (fun i hi hr => absurd (hbase i (.inr hr)) (by omega))
    (fun G' w' a' hx hi he => ⟨G', _, _, h3, hX0.trans hx, hi.le (stL_le h0 ops.size (fun _ _ => rfl)), he⟩)
    ops.size (Array.replicate ops.size false) (fun _ => false) (by simp) (fun i hi => by simp [Array.getD_eq_getD_getElem?, hi]) (fun i hi h => by cases h) (Nat.le_trans (List.length_filter_le _ _) (by simp))
    ⟨G.U, fun i => G.R i ∨ (base ≤ i ∧ i < base + ops.size), G.b, G.X, G.B⟩ { w with drawn := w.drawn + 1 } a hX1 (hI1.le fun i o ho => ?_) (fun k hk _ => ⟨fun hu => absurd (hbase _ (.inl hu)) (by omega), .inr ⟨by omega, by omega⟩⟩) ?_
  · exact key
  · unfold stB at ho
    split at ho
    · cases ho
    · exact ho
  · have e : ∀ k, envK N ops env rs (fun _ => false) k = env := by
      intro k
      induction k with
      | zero => rfl
      | succ k ih =>
        unfold envK
        cases ops[k]? with
        | none => exact ih
        | some o => cases rs[k]? <;> exact ih
    rw [e]
    exact hE'.ext hX1⟩
end Go.Proofs.YtnafgpgbedcdnaaDoor.D.Pm
namespace Go.Proofs.YtnafgpgbedcdnaaDoor.D.Pm
set_option linter.unusedVariables false
set_option linter.unusedSimpArgs false
open Go
abbrev Big : Nat := 4611686018427387903
/-- a function of its arguments alone -/
def Is (P : Program) (f : FuncId) (as : List AV) (r : AV) : Prop := ∀ st, Does P f as st fun r' s => r' = r ∧ s = st
variable {P : Program} {T : TT} {N : Nat} {ρ : Option Nat}
theorem Is.of (TP : TOk P T) {f : FuncId} {fn : Func} {c : Code} {as : List AV} {r : AV} (hf : P.funcs[f]? = some fn) (hb : fn.body = some c) (hn : (fn.name == "runtime.NumGoroutine") = false) (hN : as.length ≤ fn.ntmps)
    (h : ∀ st, Pw (ρ := none) P fn.ntmps c (retQ T fn.results.toList fun r' s => r' = r ∧ s = st) (params 0 as) st) : Is P f as r := fun st => Does.of TP hf hb hn hN (h st)
theorem Is.call {f : FuncId} {as : List AV} {r : AV} {st : Sto} {K : AV → Sto → Prop} (h : Is P f as r) (k : K r st) : Does P f as st K := (h st).mono fun r' s ⟨e1, e2⟩ => by subst e1 e2; exact k
theorem Is.callB {f : FuncId} {as : List AV} {x : Bool} {st : Sto} {K : AV → Sto → Prop} (h : Is P f as (vB x)) (k : ∀ b, x = b → K (vB b) st) : Does P f as st K := h.call (k x rfl)
theorem Is.callI {f : FuncId} {as : List AV} {i : IntKind} {x : Int} {st : Sto} {K : AV → Sto → Prop} (h : Is P f as (vI i x)) (k : ∀ b, x = b → K (vI i b) st) : Does P f as st K := h.call (k x rfl)
theorem Is.callS {f : FuncId} {as : List AV} {sz : Nat} {x : List (List AC)} {st : Sto} {K : AV → Sto → Prop} (h : Is P f as (.c (.sl sz x))) (k : ∀ b, x = b → K (.c (.sl sz b)) st) : Does P f as st K := h.call (k x rfl)
theorem Is.drawB {f : FuncId} {as : List AV} {x : Bool} {st : Sto} {F : AV → Prop} (h : Is P f as (vB x)) (k : ∀ b, x = b → F (vB b)) : ∃ r, (∀ st', Le st st' → Does P f as st' fun r' s => r' = r ∧ s = st') ∧ F r := ⟨_, fun st' _ => h st', k x rfl⟩
theorem Is.drawI {f : FuncId} {as : List AV} {i : IntKind} {x : Int} {st : Sto} {F : AV → Prop} (h : Is P f as (vI i x)) (k : ∀ b, x = b → F (vI i b)) : ∃ r, (∀ st', Le st st' → Does P f as st' fun r' s => r' = r ∧ s = st') ∧ F r := ⟨_, fun st' _ => h st', k x rfl⟩
theorem Is.draw {f : FuncId} {as : List AV} {x : AV} {st : Sto} {F : AV → Prop} (h : Is P f as x) (k : F x) : ∃ r, (∀ st', Le st st' → Does P f as st' fun r' s => r' = r ∧ s = st') ∧ F r := ⟨_, fun st' _ => h st', k⟩
theorem Is.eq {f : FuncId} {as : List AV} {r r' : AV} (h : Is P f as r) (e : r = r') : Is P f as r' := e ▸ h
/-! ### the end of a function -/
theorem Fin.same {st : Sto} {r r' : AV} {st0 : Sto} {Q : AV → Sto → Prop} (e : r = r') (h : Le st0 st) (k : Q r' st0) : Fin Q r st := ⟨fun _ => false, st0, r', e ▸ .refl _, fun id o ho => ⟨h id o ho, rfl⟩, k⟩
theorem Fin.pure {st : Sto} {r : AV} : Fin (fun r' s => r' = r ∧ s = st) r st := .same rfl (.refl _) ⟨rfl, rfl⟩
theorem Fin.pureE {st : Sto} {r r' : AV} (e : r = r') : Fin (fun r' s => r' = r ∧ s = st) r' st := .same e.symm (.refl _) ⟨rfl, rfl⟩
theorem Fin.old {st st0 : Sto} {r r' : AV} (e : r' = r) (h : Le st0 st) : Fin (fun r' s => r' = r ∧ s = st0) r' st := .same e h ⟨rfl, rfl⟩
theorem Le.up {st0 st : Sto} {id : Nat} {o : Ob} (h : Le st0 st) (hn : st id = none) : Le st0 (Pm.upd st id o) := h.trans (.upd hn)
theorem Le.up2 {st0 st : Sto} {id : Nat} {o : Ob} (h : Le st0 st) (hn : st0 id = none) : Le st0 (Pm.upd st id o) := fun i o' ho => by
  have : i ≠ id := fun e => by subst e; rw [hn] at ho; cases ho
  simp [Pm.upd, this, h i o' ho]
theorem Le.dl {st0 st : Sto} {id : Nat} (h : Le st0 st) (hn : st0 id = none) : Le st0 (Pm.del st id) := fun i o' ho => by
  have : i ≠ id := fun e => by subst e; rw [hn] at ho; cases ho
  simp [Pm.del, this, h i o' ho]
theorem Le.none {st0 st : Sto} {id : Nat} (h : Le st0 st) (hn : st id = none) : st0 id = none := by
  cases hs : st0 id with
  | none => rfl
  | some o => rw [h id o hs] at hn; cases hn
theorem upd_same (st : Sto) (id : Nat) (o : Ob) : upd st id o id = some o := by simp [upd]
theorem upd_ne {st : Sto} {id i : Nat} (o : Ob) (h : i ≠ id) : upd st id o i = st i := by simp [upd, h]
theorem fresh_ne {st : Sto} {id i : Nat} {o : Ob} (h : st id = none) (hi : st i = some o) : i ≠ id := fun e => by subst e; rw [h] at hi; cases hi
theorem upd_old {st : Sto} {id i : Nat} {o o' : Ob} (h : st id = none) (hi : st i = some o) : upd st id o' i = some o := by rw [upd_ne _ (fresh_ne h hi), hi]
/-! ### slots -/
def EVe (env : Env) : Env → Prop
  | [] => True
  | (t, r) :: l => look env t = some r ∧ EVe env l
def sub (env : Env) : List Nat → Env
  | [] => []
  | t :: l => match look env t with
    | some r => (t, r) :: sub env l
    | none => sub env l
theorem EVe.ev {env : Env} {st : Sto} : ∀ {l : Env}, EVe env l → EV (fun _ => false) st env l
  | [], _ => trivial
  | (t, r) :: l, ⟨h1, h2⟩ => ⟨⟨r, h1, .refl _⟩, h2.ev⟩
theorem EVe.app {env : Env} : ∀ {l m : Env}, EVe env l → EVe env m → EVe env (l ++ m)
  | [], m, _, h => h
  | (t, r) :: l, m, ⟨h1, h2⟩, h => ⟨h1, h2.app h⟩
theorem EVe.sub {env : Env} : ∀ (l : List Nat), EVe env (Pm.sub env l)
  | [] => trivial
  | t :: l => by
    unfold Pm.sub
    cases h : look env t with
    | none => exact EVe.sub l
    | some r => exact ⟨h, EVe.sub l⟩
theorem Vw.mk {env : Env} {st : Sto} {env' : Env} {st' : Sto} (h : EVe env env') (hs : Le st' st) : Vw env st env' st' := ⟨fun _ => false, h.ev, fun id o ho => ⟨hs id o ho, rfl⟩⟩
theorem wrap_id {n : Int} (h1 : -9223372036854775808 ≤ n) (h2 : n ≤ 9223372036854775807) : IntKind.i64.wrap n = n := by
  show (if (true && decide (n % 2 ^ 64 ≥ 2 ^ 63)) = true then n % 2 ^ 64 - 2 ^ 64 else n % 2 ^ 64) = n
  split
  · rename_i h3
    simp at h3
    omega
  · rename_i h3
    simp at h3
    omega
theorem wrap_nat {i n : Nat} (h : i ≤ n) (hn : n ≤ Big) : IntKind.i64.wrap ((i : Int) + 1) = ((i + 1 : Nat) : Int) := by
  have := hn; unfold Big at this; rw [wrap_id (by omega) (by omega)]; rfl
/-! ### loops that count -/
theorem Pw.rngS {τ : Type} (ti : Nat) (n : Nat) (hn : n ≤ Big) (keep : List Nat) (u : Nat → τ → Env) (s : Nat → τ → Sto) (I : Nat → τ → Prop) {c : Code} {Q : Exit → Env → Sto → Prop} {env : Env} {st : Sto} (x0 : τ)
    (h0 : look env ti = some (vI .i64 0)) (h1 : EVe env (u 0 x0)) (h2 : Le (s 0 x0) st) (h3 : I 0 x0)
    (round : ∀ i x, i ≤ n → I i x → Pw (ρ := ρ) P N c (fun ex env' st' => match ex with | .normal => i < n ∧ look env' ti = some (vI .i64 (IntKind.i64.wrap ((i : Int) + 1))) ∧ EVe env' (sub env keep) ∧ ∃ y, EVe env' (u (i + 1) y) ∧ Le (s (i + 1) y) st' ∧ I (i + 1) y | ex => Q ex env' st')
      ((ti, vI .i64 (i : Nat)) :: (u i x ++ sub env keep)) (s i x)) : Pw (ρ := ρ) P N (.loop c) Q env st := by
  refine Pw.loop (σ := Nat × τ) (fun p => (ti, vI .i64 (p.1 : Nat)) :: (u p.1 p.2 ++ sub env keep)) (fun p => s p.1 p.2) (fun p => p.1 ≤ n ∧ I p.1 p.2) (fun p => n - p.1) ?_ ?_
  · exact ⟨(0, x0), .mk ⟨h0, h1.app (.sub _)⟩ h2, Nat.zero_le _, h3⟩
  · rintro ⟨i, x⟩ ⟨hi, hx⟩
    refine Pw.mono (round i x hi hx) fun ex env' st' h => ?_
    cases ex with
    | normal =>
      obtain ⟨k1, k2, k3, y, k4, k5, k6⟩ := h
      rw [wrap_nat hi hn] at k2
      exact ⟨(i + 1, y), .mk ⟨k2, k4.app k3⟩ k5, ⟨k1, k6⟩, by show n - (i + 1) < n - i; omega⟩
    | _ => exact h
/-- .. and nothing in memory changes -/
theorem Pw.rng {τ : Type} (ti : Nat) (n : Nat) (hn : n ≤ Big) (keep : List Nat) (u : τ → Env) (I : Nat → τ → Prop) {c : Code} {Q : Exit → Env → Sto → Prop} {env : Env} {st : Sto} (x0 : τ)
    (h0 : look env ti = some (vI .i64 0)) (h1 : EVe env (u x0)) (h3 : I 0 x0)
    (round : ∀ i x, i ≤ n → I i x → Pw (ρ := ρ) P N c (fun ex env' st' => match ex with | .normal => i < n ∧ look env' ti = some (vI .i64 (IntKind.i64.wrap ((i : Int) + 1))) ∧ EVe env' (sub env keep) ∧ ∃ y, EVe env' (u y) ∧ Le st st' ∧ I (i + 1) y | ex => Q ex env' st')
      ((ti, vI .i64 (i : Nat)) :: (u x ++ sub env keep)) st) : Pw (ρ := ρ) P N (.loop c) Q env st :=
  Pw.rngS ti n hn keep (fun _ => u) (fun _ _ => st) I x0 h0 h1 (.refl _) h3 round
/-- loops of another kind -/
theorem Pw.lpS {σ : Type} (keep : List Nat) (u : σ → Env) (s : σ → Sto) (I : σ → Prop) (μ : σ → Nat) {c : Code} {Q : Exit → Env → Sto → Prop} {env : Env} {st : Sto} (x0 : σ) (h1 : EVe env (u x0)) (h2 : Le (s x0) st) (h3 : I x0)
    (round : ∀ x, I x → Pw (ρ := ρ) P N c (fun ex env' st' => match ex with | .normal => EVe env' (sub env keep) ∧ ∃ y, EVe env' (u y) ∧ Le (s y) st' ∧ I y ∧ μ y < μ x | ex => Q ex env' st') (u x ++ sub env keep) (s x)) : Pw (ρ := ρ) P N (.loop c) Q env st := by
  refine Pw.loop (fun x => u x ++ sub env keep) s I μ ⟨x0, .mk (h1.app (.sub _)) h2, h3⟩ fun x hx => Pw.mono (round x hx) fun ex env' st' h => ?_
  cases ex with
  | normal =>
    obtain ⟨k1, y, k2, k3, k4, k5⟩ := h
    exact ⟨y, .mk (k2.app k1) k3, k4, k5⟩
  | _ => exact h
theorem Pw.lp {σ : Type} (keep : List Nat) (u : σ → Env) (I : σ → Prop) (μ : σ → Nat) {c : Code} {Q : Exit → Env → Sto → Prop} {env : Env} {st : Sto} (x0 : σ) (h1 : EVe env (u x0)) (h3 : I x0)
    (round : ∀ x, I x → Pw (ρ := ρ) P N c (fun ex env' st' => match ex with | .normal => EVe env' (sub env keep) ∧ ∃ y, EVe env' (u y) ∧ Le st st' ∧ I y ∧ μ y < μ x | ex => Q ex env' st') (u x ++ sub env keep) st) : Pw (ρ := ρ) P N (.loop c) Q env st :=
  Pw.lpS keep u (fun _ => st) I μ x0 h1 (.refl _) h3 round
theorem Pw.drw (TP : TOk P T) (hm : P.follows .mixedOrders = true) {id : Nat} {ops : Array Oper} (hok : drawOk ops (mkA ops ops.size) = true) {Q : Exit → Env → Sto → Prop} {env : Env} {st : Sto}
    (h : vdraw P T N ops (mkA ops ops.size) st (Q .normal) 0 ops.toList env []) : Pw (ρ := ρ) P N (.region id ops true) Q env st := Pw.draw TP _ hm hok h
/-- a first piece of code, and what is known behind it -/
theorem Pw.cut {τ : Type} (keep : List Nat) (u : τ → Env) (s : τ → Sto) (I : τ → Prop) {x y : Code} {Q : Exit → Env → Sto → Prop} {env : Env} {st : Sto}
    (h : Pw (ρ := ρ) P N x (fun ex env' st' => match ex with | .normal => EVe env' (sub env keep) ∧ ∃ z, EVe env' (u z) ∧ Le (s z) st' ∧ I z | ex => Q ex env' st') env st)
    (k : ∀ z, I z → Pw (ρ := ρ) P N y Q (u z ++ sub env keep) (s z)) : Pw (ρ := ρ) P N (.seq x y) Q env st := by
  refine .seq (h.mono fun ex env' st' hh => ?_)
  cases ex with
  | normal =>
    obtain ⟨h1, z, h2, h3, h4⟩ := hh
    exact Pw.vw (.mk (h2.app h1) h3) (k z h4)
  | _ => exact hh
/-! ### lists that came in -/
theorem ixm {α : Type} {l : List α} {f : α → List AC} {j : Nat} {F : List AC → Prop} (h : j < l.length) (k : F (f l[j])) : 0 ≤ (j : Int) ∧ (j : Int) < ((l.map f).length : Nat) ∧ ∃ r, (l.map f)[(j : Int).toNat]? = some r ∧ F r :=
  ⟨by omega, by rw [List.length_map]; omega, f l[j], by simp [h], k⟩
theorem lt_map {α β : Type} {l : List α} {f : α → β} {j : Nat} (h : (j : Int) < ((l.map f).length : Nat)) : j < l.length := by rw [List.length_map] at h; omega
theorem nlt_map {α β : Type} {l : List α} {f : α → β} {j : Nat} (h : ¬ (j : Int) < ((l.map f).length : Nat)) (hj : j ≤ l.length) : j = l.length := by rw [List.length_map] at h; omega
/-- a call of which only so much is told -/
def Ist (P : Program) (f : FuncId) (xs : List AV) (F : AV → Prop) : Prop := ∀ st, Does P f xs st fun r s => F r ∧ s = st
theorem Ist.call {P : Program} {f : FuncId} {xs : List AV} {F : AV → Prop} {st : Sto} {K : AV → Sto → Prop} (h : Ist P f xs F) (k : ∀ r, F r → K r st) : Does P f xs st K := (h st).mono fun r' s ⟨e1, e2⟩ => by subst e2; exact k _ e1
theorem Ist.of {P : Program} {T : TT} (TP : TOk P T) {f : FuncId} {fn : Func} {c : Code} {xs : List AV} {F : AV → Prop} (hf : P.funcs[f]? = some fn) (hb : fn.body = some c) (hn : (fn.name == "runtime.NumGoroutine") = false) (hN : xs.length ≤ fn.ntmps)
    (h : ∀ st, Pw (ρ := none) P fn.ntmps c (retQ T fn.results.toList fun r' s => F r' ∧ s = st) (params 0 xs) st) : Ist P f xs F := fun st => Does.of TP hf hb hn hN (h st)
theorem Fin.st {st st0 : Sto} {r : AV} {F : AV → Prop} (e : F r) (h : Le st0 st) : Fin (fun r' s => F r' ∧ s = st0) r st := .same rfl h ⟨e, rfl⟩
/-! ### lists that grow -/
def Grow (st0 : Sto) (sz : Nat) (st : Sto) (a : AC) (rows : List (List AC)) : Prop :=
  Le st0 st ∧ ((a = .v (.slice none 0 0) ∧ rows = []) ∨ ∃ id, a = .arr id 0 rows.length ∧ st id = some (.ar sz rows) ∧ st0 id = none)
theorem Grow.nil {st0 : Sto} {sz : Nat} {st : Sto} (h : Le st0 st) : Grow st0 sz st (.v (.slice none 0 0)) [] := ⟨h, .inl ⟨rfl, rfl⟩⟩
theorem Grow.le {st0 st : Sto} {sz : Nat} {a : AC} {rows : List (List AC)} (h : Grow st0 sz st a rows) : Le st0 st := h.1
/-- what stays as it is, while the list of a grows -/
def Kept (a : AC) (st st' : Sto) : Prop := ∀ i o, st i = some o → (∀ n, a ≠ .arr i 0 n) → st' i = some o
theorem Grow.app {st0 st : Sto} {z : TI} {a : AC} {rows ys : List (List AC)} {K : AV → Sto → Prop} (hg : Grow st0 z.size st a rows) (h1 : rows.length + ys.length ≤ maxLen) (h2 : (rows.length + ys.length) * z.bytes ≤ 140737488355328)
    (k : ∀ a' st', Grow st0 z.size st' a' (rows ++ ys) → Kept a st st' → K (.c a') st') : App st z a ys K := by
  obtain ⟨hle, hg⟩ := hg
  rcases hg with ⟨rfl, rfl⟩ | ⟨id, rfl, hs, h0⟩
  · refine ⟨⟨by simpa using h1, by simpa using h2, fun he => ?_, fun hne id hid => ?_⟩⟩
    · subst he; exact k _ _ (.nil hle) (fun i o h _ => h)
    · exact k _ _ ⟨hle.up hid, .inr ⟨id, by simp, by rw [upd_same]; rfl, hle.none hid⟩⟩ (fun i o hi _ => upd_old hid hi)
  · refine ⟨⟨rfl, rows, hs, Nat.le_refl _, h1, h2, fun id' hid => ?_⟩⟩
    rw [List.take_length]
    have hn : id ≠ id' := fun e => by subst e; rw [hs] at hid; cases hid
    refine k _ _ ⟨(hle.dl h0).up (by simp [del, hn.symm, hid]), .inr ⟨id', by simp, upd_same _ _ _, hle.none hid⟩⟩ (fun i o hi hna => ?_)
    have hi1 : i ≠ id := fun e => by subst e; exact hna _ rfl
    have hi2 : i ≠ id' := fun e => by subst e; rw [hi] at hid; cases hid
    simp [upd, del, hi1, hi2, hi]
theorem Grow.kept {st0 st st' : Sto} {sz : Nat} {a b : AC} {rows : List (List AC)} (hg : Grow st0 sz st b rows) (hle : Le st0 st') (hk : Kept a st st') (hne : ∀ i n m, a = .arr i 0 n → b ≠ .arr i 0 m) : Grow st0 sz st' b rows := by
  refine ⟨hle, hg.2.imp id fun ⟨id, h1, h2, h3⟩ => ⟨id, h1, hk _ _ h2 (fun n e => hne id n _ e h1), h3⟩⟩
theorem Grow.up {st0 st : Sto} {sz : Nat} {b : AC} {rows : List (List AC)} (hg : Grow st0 sz st b rows) {id : Nat} {o : Ob} (h : st id = none) : Grow st0 sz (upd st id o) b rows :=
  ⟨hg.1.up h, hg.2.imp (fun h => h) fun ⟨i, h1, h2, h3⟩ => ⟨i, h1, upd_old h h2, h3⟩⟩
/-- .. as it is handed back -/
theorem Grow.fv {st0 st : Sto} {sz : Nat} {a : AC} {rows : List (List AC)} (hg : Grow st0 sz st a rows) (hr : ∀ r ∈ rows, r.length = sz) : ∃ D : Nat → Bool, (∀ D' : Nat → Bool, (∀ i, D i = true → D' i = true) → Fz D' st a (.sl sz rows)) ∧ ∀ i, D i = true → st0 i = none := by
  rcases hg.2 with ⟨rfl, rfl⟩ | ⟨id, rfl, hs, h0⟩
  · exact ⟨fun _ => false, fun D' _ => .nil sz, fun i h => by cases h⟩
  · refine ⟨only id, fun D' hD => Fz.arr id 0 rows.length sz rows rows (hD id (by simp [only])) hs (by omega) rfl (fun i r hi => hr r (List.mem_of_getElem? hi)) (fun i r r' j c c' q1 q2 q3 q4 => ?_), fun i h => ?_⟩
    · rw [Nat.zero_add] at q1
      rw [q1] at q2
      cases q2
      rw [q3] at q4
      cases q4
      exact .refl _
    · have : i = id := by simpa [only] using h
      rw [this]; exact h0
theorem Fin.grow {st0 st : Sto} {sz : Nat} {a : AC} {rows : List (List AC)} {Q : AV → Sto → Prop} (hg : Grow st0 sz st a rows) (hr : ∀ r ∈ rows, r.length = sz) (k : Q (.c (.sl sz rows)) st0) : Fin Q (.c a) st := by
  obtain ⟨D, h1, h2⟩ := hg.fv hr
  refine ⟨D, st0, _, .c _ _ (h1 D fun _ h => h), fun i o hi => ⟨hg.1 i o hi, ?_⟩, k⟩
  cases hd : D i with
  | false => rfl
  | true => rw [h2 i hd] at hi; cases hi
theorem Fin.grow2 {st0 st : Sto} {sz sz' : Nat} {a b : AC} {rows rows' : List (List AC)} {Q : AV → Sto → Prop} (hg : Grow st0 sz st a rows) (hg' : Grow st0 sz' st b rows') (hr : ∀ r ∈ rows, r.length = sz) (hr' : ∀ r ∈ rows', r.length = sz') (k : Q (.t [.c (.sl sz rows), .c (.sl sz' rows')]) st0) :
    Fin Q (.t [.c a, .c b]) st := by
  obtain ⟨D, h1, h2⟩ := hg.fv hr
  obtain ⟨D', h1', h2'⟩ := hg'.fv hr'
  refine ⟨fun i => D i || D' i, st0, _, .t _ _ (by simp) (fun j c c' q1 q2 => ?_), fun i o hi => ⟨hg.1 i o hi, ?_⟩, k⟩
  · match j, q1, q2 with
    | 0, q1, q2 => cases q1; cases q2; exact .c _ _ (h1 _ fun i h => by simp [h])
    | 1, q1, q2 => cases q1; cases q2; exact .c _ _ (h1' _ fun i h => by simp [h])
    | j + 2, q1, q2 => simp at q1
  · cases hd : D i with
    | true => rw [h2 i hd] at hi; cases hi
    | false =>
      cases hd' : D' i with
      | true => rw [h2' i hd'] at hi; cases hi
      | false => simp [hd, hd']
end Go.Proofs.YtnafgpgbedcdnaaDoor.D.Pm
namespace Go.Proofs.YtnafgpgbedcdnaaDoor.D.Pm
set_option linter.unusedVariables false
set_option linter.unusedSimpArgs false
open Go
/-! ### draws with a chain of changes: the operations of Bs stand in one order, the others hang on none of them and on no memory that changes -/
section
variable (N : Nat) (ops : Array Oper) (env0 : Env)
def envR (rs : Nat → Option AV) : Nat → Env
  | 0 => env0
  | k + 1 => match ops[k]?, rs k with
    | some o, some r => put N (envR rs k) o.dst r
    | _, _ => envR rs k
def updR (rs : Nat → Option AV) (i : Nat) (r : AV) : Nat → Option AV := fun k => if k = i then some r else rs k
end
variable {P : Program} {T : TT} {N : Nat} {ops : Array Oper} {env0 : Env} {rs rs' : Nat → Option AV}
theorem envR_congr : ∀ (k : Nat), (∀ j, j < k → rs j = rs' j) → envR N ops env0 rs k = envR N ops env0 rs' k
  | 0, _ => rfl
  | k + 1, h => by
    unfold envR
    rw [h k (Nat.lt_succ_self _), envR_congr k (fun j hj => h j (by omega))]
theorem look_envR {t : Tmp} : ∀ (k : Nat), (∀ j, j < k → (ops[j]?).bind (·.dst) = some t → rs j = rs' j) → look (envR N ops env0 rs k) t = look (envR N ops env0 rs' k) t
  | 0, _ => rfl
  | k + 1, h => by
    have ih := look_envR (t := t) k (fun j hj => h j (by omega))
    unfold envR
    cases ho : ops[k]? with
    | none => exact ih
    | some o =>
      by_cases hd : o.dst = some t
      · rw [h k (Nat.lt_succ_self _) (by rw [ho]; exact hd)]
        cases rs' k with
        | none => exact ih
        | some r => exact look_put_congr ih
      · cases rs k <;> cases rs' k <;> simp only [look_put hd, ih]
theorem envR_le {t : Tmp} {k n : Nat} (hk : k ≤ n) (h : ∀ j, k ≤ j → j < n → (ops[j]?).bind (·.dst) = some t → rs j = none) : look (envR N ops env0 rs n) t = look (envR N ops env0 rs k) t := by
  induction n with
  | zero =>
    have hk0 : k = 0 := by omega
    subst hk0; rfl
  | succ n ih =>
    by_cases hkn : k = n + 1
    · subst hkn; rfl
    · have := ih (by omega) (fun j h1 h2 => h j h1 (by omega))
      rw [← this]
      conv => lhs; unfold envR
      cases ho : ops[n]? with
      | none => rfl
      | some o =>
        by_cases hd : o.dst = some t
        · rw [h n (by omega) (Nat.lt_succ_self _) (by rw [ho]; exact hd)]
        · cases rs n with
          | none => rfl
          | some r => exact look_put hd
theorem envR_upd {i : Nat} {o : Oper} {r : AV} (ho : ops[i]? = some o) (hn : rs i = none) (hu : ∀ d, o.dst = some d → ∀ j, (ops[j]?).bind (·.dst) = some d → j = i) {n : Nat} (hi : i < n) (t : Tmp) :
    look (envR N ops env0 (updR rs i r) n) t = look (put N (envR N ops env0 rs n) o.dst r) t := by
  by_cases hd : o.dst = some t
  · have e1 : look (envR N ops env0 (updR rs i r) n) t = look (envR N ops env0 (updR rs i r) (i + 1)) t := by
      have h1 : look (envR N ops env0 (updR rs i r) n) t = look (envR N ops env0 (fun k => if k ≤ i then updR rs i r k else none) n) t :=
        look_envR n (fun j hj hjd => by rw [hu t hd j hjd]; simp)
      rw [h1, envR_le (k := i + 1) (by omega) (fun j h2 _ _ => by simp; omega)]
      exact congrArg (look · t) (envR_congr (i + 1) (fun j hj => by simp; omega))
    have e2 : envR N ops env0 (updR rs i r) (i + 1) = put N (envR N ops env0 (updR rs i r) i) o.dst r := by
      conv => lhs; unfold envR
      rw [ho]
      simp [updR]
    have e3 : envR N ops env0 (updR rs i r) i = envR N ops env0 rs i := envR_congr i (fun j hj => by unfold updR; rw [if_neg (by omega)])
    have e4 : look (envR N ops env0 rs n) t = look (envR N ops env0 rs i) t := envR_le (by omega) (fun j h1 h2 hj => by rw [hu t hd j hj]; exact hn)
    rw [e1, e2, e3, hd, look_put_same, look_put_same, e4]
  · rw [look_put hd]
    exact look_envR n (fun j hj hjd => by
      unfold updR
      rw [if_neg (fun e => by subst e; rw [ho] at hjd; exact hd hjd)])
def drawOkC (ops : Array Oper) (M : List (List Nat)) (Bs : List Nat) : Bool :=
  ancOk ops M && (List.range ops.size).all fun i => match ops[i]? with
    | some o => (match o.dst with | some d => dsts ops d == [i] | none => true) && (((o.looksAt ops).all fun t => (dsts ops t).all fun j => (M.getD i []).contains j) &&
      (if Bs.contains i then o.guard.isNone && Bs.all (fun j => decide (i ≤ j) || (M.getD i []).contains j) else (M.getD i []).all fun j => !Bs.contains j))
    | none => true
theorem drawOkC_parts {M : List (List Nat)} {Bs : List Nat} (h : drawOkC ops M Bs = true) : ancOk ops M = true ∧ ∀ i o, ops[i]? = some o → (∀ d, o.dst = some d → ∀ j, (ops[j]?).bind (·.dst) = some d → j = i) ∧
    (∀ t ∈ o.looksAt ops, ∀ j, (ops[j]?).bind (·.dst) = some t → j ∈ M.getD i []) ∧ (Bs.contains i = true → o.guard = none ∧ ∀ j, Bs.contains j = true → j < i → j ∈ M.getD i []) ∧ (Bs.contains i = false → ∀ j ∈ M.getD i [], Bs.contains j = false) := by
  unfold drawOkC at h
  rw [Bool.and_eq_true] at h
  refine ⟨h.1, fun i o ho => ?_⟩
  have hi : i < ops.size := (Array.getElem?_eq_some_iff.1 ho).1
  have h2 := List.all_eq_true.1 h.2 i (List.mem_range.2 hi)
  rw [ho] at h2
  dsimp only at h2
  rw [Bool.and_eq_true, Bool.and_eq_true] at h2
  have mem : ∀ t j, (ops[j]?).bind (·.dst) = some t → j ∈ dsts ops t := fun t j hj => by
    have hlt : j < ops.size := by
      cases hq : ops[j]? with
      | none => rw [hq] at hj; cases hj
      | some q => exact (Array.getElem?_eq_some_iff.1 hq).1
    exact List.mem_filter.2 ⟨List.mem_range.2 hlt, by rw [hj]; simp⟩
  refine ⟨fun d hd j hj => ?_, fun t ht j hj => ?_, fun hb => ?_, fun hb j hj => ?_⟩
  · have h3 := h2.1
    rw [hd] at h3
    have h4 : dsts ops d = [i] := by simpa using h3
    have := mem d j hj
    rw [h4] at this
    simpa using this
  · have h3 := List.all_eq_true.1 h2.2.1 t ht
    have h4 := List.all_eq_true.1 h3 j (mem t j hj)
    rwa [List.contains_iff_mem] at h4
  · have h3 := h2.2.2
    rw [if_pos hb, Bool.and_eq_true] at h3
    refine ⟨by simpa using h3.1, fun j hj hlt => ?_⟩
    have h4 := List.all_eq_true.1 h3.2 j (List.contains_iff_mem.1 hj)
    simp only [Bool.or_eq_true, decide_eq_true_eq] at h4
    rcases h4 with h4 | h4
    · omega
    · exact List.contains_iff_mem.1 h4
  · have h3 := h2.2.2
    rw [if_neg (by rw [hb]; simp)] at h3
    have h4 := List.all_eq_true.1 h3 j hj
    simpa using h4
section
variable (P : Program) (T : TT) (N : Nat) (ops : Array Oper) (Bs : List Nat) (Mq : List Nat) (st0 : Sto) (qs : Option Nat) (R : Nat → Sto) (V : Sto → Prop)
/-- the memory that an operation may read -/
def rdst (i : Nat) : Sto := match Mq.elem i with
  | true => st0
  | false => fun _ => none
def vdA : Nat → List Oper → Env → (Env → Prop) → Prop
  | _, [], env, F => F env
  | i, o :: l, env, F => match Bs.elem i with
    | true => vdA (i + 1) l env F
    | false => match o.guard with
      | none => vone P T (R i) env o.op fun r => vdA (i + 1) l (put N env o.dst r) F
      | some (j, want) => onO ((ops[j]?).bind (·.dst)) fun d => onO (look env d) fun r => onG r (vdA (i + 1) l (put N env o.dst (.t [])) F) fun b =>
          if b = want then vone P T (R i) env o.op fun r => vdA (i + 1) l (put N env o.dst r) F else vdA (i + 1) l (put N env o.dst (.t [])) F
def vdB : Nat → List Oper → Env → Sto → (Env → Sto → Prop) → Prop
  | _, [], env, st, Q => Q env st
  | i, o :: l, env, st, Q => match Bs.elem i with
    | true => (match qs with
      | none => vop P T env st o.op fun r st => vdB (i + 1) l (put N env o.dst r) st Q
      | some q => (match Nat.ble i q with
        | true => Le st0 st ∧ vop P T env st o.op fun r st => vdB (i + 1) l (put N env o.dst r) st Q
        | false => vop P T env st o.op fun r st => vdB (i + 1) l (put N env o.dst r) st Q))
    | false => vdB (i + 1) l env st Q
/-- .. where V holds all the while -/
def vdC : Nat → List Oper → Env → Sto → (Env → Sto → Prop) → Prop
  | _, [], env, st, Q => V st ∧ Q env st
  | i, o :: l, env, st, Q => match Bs.elem i with
    | true => V st ∧ (match qs with
      | none => vop P T env st o.op fun r st => vdC (i + 1) l (put N env o.dst r) st Q
      | some q => (match Nat.ble i q with
        | true => Le st0 st ∧ vop P T env st o.op fun r st => vdC (i + 1) l (put N env o.dst r) st Q
        | false => vop P T env st o.op fun r st => vdC (i + 1) l (put N env o.dst r) st Q))
    | false => vdC (i + 1) l env st Q
def FactA (env0 : Env) (rs : Nat → Option AV) (k : Nat) : Prop :=
  ∃ o r, ops[k]? = some o ∧ rs k = some r ∧
    ((∃ j want d r', o.guard = some (j, want) ∧ (ops[j]?).bind (·.dst) = some d ∧ look (envR N ops env0 rs k) d = some r' ∧ notIs r' want ∧ r = .t []) ∨
     ((o.guard = none ∨ ∃ j want d, o.guard = some (j, want) ∧ (ops[j]?).bind (·.dst) = some d ∧ look (envR N ops env0 rs k) d = some (.c (.v (.bool want)))) ∧
      ∀ st', Le (R k) st' → vop P T (envR N ops env0 rs k) st' o.op fun r' s => r' = r ∧ s = st'))
end
variable {Bs : List Nat} {Mq : List Nat} {st0 : Sto} {qs : Option Nat} {R : Nat → Sto} {V : Sto → Prop}
theorem FactA.congr {k : Nat} (h : ∀ j, j ≤ k → rs j = rs' j) (hf : FactA P T N ops R env0 rs k) : FactA P T N ops R env0 rs' k := by
  unfold FactA at hf ⊢
  rw [envR_congr k (rs' := rs') (fun j hj => h j (by omega)), h k (Nat.le_refl _)] at hf
  exact hf
theorem planA {F : Env → Prop} : ∀ (l : List Oper) (i : Nat) (rs : Nat → Option AV), ops.toList.drop i = l → i ≤ ops.size → (∀ k, i ≤ k → rs k = none) → (∀ k, k < i → Bs.elem k = false → FactA P T N ops R env0 rs k) → (∀ k, Bs.elem k = true → rs k = none) →
    vdA P T N ops Bs R i l (envR N ops env0 rs i) F → ∃ rs', (∀ k, k < ops.size → Bs.elem k = false → FactA P T N ops R env0 rs' k) ∧ (∀ k, Bs.elem k = true → rs' k = none) ∧ F (envR N ops env0 rs' ops.size)
  | [], i, rs, hd, hi, h0, hf, hb, h => by
    have hn : ops.size ≤ i := by
      have := congrArg List.length hd
      simp at this; omega
    have he : i = ops.size := by omega
    subst he
    exact ⟨rs, hf, hb, h⟩
  | o :: l, i, rs, hd, hi, h0, hf, hb, h => by
    have ho : ops[i]? = some o := by
      have := congrArg (·[0]?) hd
      simpa [List.getElem?_drop] using this
    have hd' : ops.toList.drop (i + 1) = l := by rw [← List.drop_drop, hd]; rfl
    have hi' : i < ops.size := (Array.getElem?_eq_some_iff.1 ho).1
    unfold vdA at h
    cases hbi : Bs.elem i with
    | true =>
      rw [hbi] at h
      have e : envR N ops env0 rs (i + 1) = envR N ops env0 rs i := by
        conv => lhs; unfold envR
        rw [ho, h0 i (Nat.le_refl _)]
      refine planA l (i + 1) rs hd' hi' (fun k hk => h0 k (by omega)) (fun k hk hkb => ?_) hb (by rw [e]; exact h)
      by_cases hki : k = i
      · subst hki; rw [hbi] at hkb; cases hkb
      · exact hf k (by omega) hkb
    | false =>
      rw [hbi] at h
      dsimp only at h
      have step : ∀ r, FactA P T N ops R env0 (updR rs i r) i → vdA P T N ops Bs R (i + 1) l (put N (envR N ops env0 rs i) o.dst r) F →
          ∃ rs', (∀ k, k < ops.size → Bs.elem k = false → FactA P T N ops R env0 rs' k) ∧ (∀ k, Bs.elem k = true → rs' k = none) ∧ F (envR N ops env0 rs' ops.size) := by
        intro r hfr hv
        have e : envR N ops env0 (updR rs i r) (i + 1) = put N (envR N ops env0 rs i) o.dst r := by
          conv => lhs; unfold envR
          rw [ho]
          rw [show updR rs i r i = some r from by simp [updR], envR_congr i (rs' := rs) (fun j hj => by unfold updR; rw [if_neg (by omega)])]
        refine planA l (i + 1) (updR rs i r) hd' hi' (fun k hk => by unfold updR; rw [if_neg (by omega)]; exact h0 k (by omega)) (fun k hk hkb => ?_) (fun k hkb => ?_) (by rw [e]; exact hv)
        · by_cases hki : k = i
          · subst hki; exact hfr
          · exact (hf k (by omega) hkb).congr (fun j hj => by unfold updR; rw [if_neg (by omega)])
        · unfold updR
          rw [if_neg (fun e => by subst e; rw [hbi] at hkb; cases hkb)]
          exact hb k hkb
      have hek : ∀ r, envR N ops env0 (updR rs i r) i = envR N ops env0 rs i := fun r => envR_congr i (fun j hj => by unfold updR; rw [if_neg (by omega)])
      have hri : ∀ r, updR rs i r i = some r := fun r => by simp [updR]
      have run : (o.guard = none ∨ ∃ j want d, o.guard = some (j, want) ∧ (ops[j]?).bind (·.dst) = some d ∧ look (envR N ops env0 rs i) d = some (.c (.v (.bool want)))) →
          vone P T (R i) (envR N ops env0 rs i) o.op (fun r => vdA P T N ops Bs R (i + 1) l (put N (envR N ops env0 rs i) o.dst r) F) →
          ∃ rs', (∀ k, k < ops.size → Bs.elem k = false → FactA P T N ops R env0 rs' k) ∧ (∀ k, Bs.elem k = true → rs' k = none) ∧ F (envR N ops env0 rs' ops.size) := by
        intro hg hr
        obtain ⟨r, h1, h2⟩ := vone_det hr
        refine step r ⟨o, r, ho, hri r, .inr ⟨?_, fun st' hle => ?_⟩⟩ h1
        · rw [hek]; exact hg
        · rw [hek]; exact h2 st' hle
      cases hgd : o.guard with
      | none =>
        rw [hgd] at h
        exact run (.inl hgd) h
      | some jw =>
        obtain ⟨j, want⟩ := jw
        rw [hgd] at h
        dsimp only at h
        obtain ⟨d, h1, hh1⟩ := onO_iff.1 h
        obtain ⟨r, h2, hh2⟩ := onO_iff.1 hh1
        rcases onG_ok hh2 with ⟨⟨l', rfl⟩, hh⟩ | ⟨b, rfl, hh⟩
        · exact step (.t []) ⟨o, _, ho, hri _, .inl ⟨j, want, d, _, hgd, h1, by rw [hek]; exact h2, .inr ⟨l', rfl⟩, rfl⟩⟩ hh
        · by_cases hbw : b = want
          · rw [if_pos hbw] at hh
            exact run (.inr ⟨j, want, d, hgd, h1, hbw ▸ h2⟩) hh
          · rw [if_neg hbw] at hh
            exact step (.t []) ⟨o, _, ho, hri _, .inl ⟨j, want, d, _, hgd, h1, by rw [hek]; exact h2, .inl ⟨b, rfl, hbw⟩, rfl⟩⟩ hh
theorem vdC_skip {Q : Env → Sto → Prop} {env : Env} {st : Sto} {p : Nat} : ∀ (m : Nat), (∀ j, p ≤ j → j < p + m → Bs.elem j = false) → p + m ≤ ops.size → vdC P T N Bs st0 qs V p (ops.toList.drop p) env st Q → vdC P T N Bs st0 qs V (p + m) (ops.toList.drop (p + m)) env st Q
  | 0, _, _, h => h
  | m + 1, hb, hm, h => by
    have h1 := vdC_skip m (fun j h1 h2 => hb j h1 (by omega)) (by omega) h
    have hlt : p + m < ops.toList.length := by rw [Array.length_toList]; omega
    rw [List.drop_eq_getElem_cons hlt] at h1
    unfold vdC at h1
    rw [hb (p + m) (by omega) (by omega)] at h1
    exact h1
theorem vdC_le {Q : Env → Sto → Prop} {q : Nat} (hq : Bs.elem q = true) (hlt : q < ops.size) : ∀ (m : Nat) {p : Nat} {env : Env} {st : Sto}, p + m = q → vdC P T N Bs st0 (some q) V p (ops.toList.drop p) env st Q → Le st0 st
  | m, p, env, st, hm, h => by
    have hl : p < ops.toList.length := by rw [Array.length_toList]; omega
    rw [List.drop_eq_getElem_cons hl] at h
    unfold vdC at h
    cases hb : Bs.elem p with
    | true =>
      rw [hb] at h
      have hble : Nat.ble p q = true := Nat.ble_eq_true_of_le (by omega)
      dsimp only at h
      rw [hble] at h
      exact h.2.1
    | false =>
      rw [hb] at h
      match m, hm with
      | 0, hm => have : p = q := by omega
                 subst this; rw [hb] at hq; cases hq
      | m + 1, hm => exact vdC_le hq hlt m (by omega) h
theorem vdC_V {Q : Env → Sto → Prop} : ∀ (l : List Oper) {p : Nat} {env : Env} {st : Sto}, vdC P T N Bs st0 qs V p l env st Q → V st
  | [], _, _, _, h => h.1
  | o :: l, p, env, st, h => by
    unfold vdC at h
    cases hb : Bs.elem p with
    | true => rw [hb] at h; exact h.1
    | false => rw [hb] at h; exact vdC_V l h
theorem vdC_of {Q : Env → Sto → Prop} : ∀ (l : List Oper) {p : Nat} {env : Env} {st : Sto}, vdB P T N Bs st0 qs p l env st Q → vdC P T N Bs st0 qs (fun _ => True) p l env st Q
  | [], _, _, _, h => ⟨trivial, h⟩
  | o :: l, p, env, st, h => by
    have ih : ∀ {p : Nat} {env : Env} {st : Sto}, vdB P T N Bs st0 qs p l env st Q → vdC P T N Bs st0 qs (fun _ => True) p l env st Q := fun h => vdC_of l h
    unfold vdB at h
    unfold vdC
    cases hb : Bs.elem p with
    | true =>
      rw [hb] at h
      refine ⟨trivial, ?_⟩
      dsimp only at h ⊢
      split at h
      · exact vop_mono (fun r s h => ih h) h
      · split at h
        · exact ⟨h.1, vop_mono (fun r s h => ih h) h.2⟩
        · exact vop_mono (fun r s h => ih h) h
    | false => rw [hb] at h; exact ih h
theorem drawC_any {ρ : Option Nat} (TP : TOk P T) {M : List (List Nat)} (hok : drawOkC ops M Bs = true) (hf : ∀ k, k < ops.size → Bs.elem k = false → FactA P T N ops R env0 rs k) (hrb : ∀ k, Bs.elem k = true → rs k = none) (hqs : ∀ i, Mq.elem i = true → ∃ q, qs = some q ∧ q < ops.size ∧ Bs.elem q = true ∧ i ∈ M.getD q []) (hR : ∀ i st, (Mq.elem i = true → Le st0 st) → V st → Le (R i) st) {Q : Env → Sto → Prop} {Q' : Exit → Act → World → Prop} {G0 : Gh} {w0 : World}
    (fin : ∀ G w a env st, Ext G0 w0 G w → Inv G w st → RE N G w env a → Q env st → Q' .normal a w) :
    ∀ (fuel : Nat) (listed : Array Bool) (b : Nat → Bool) (cur : Nat → Option AV) (p : Nat) (envv : Env) (st : Sto), listed.size = ops.size → (∀ i, i < ops.size → listed.getD i true = b i) → (∀ i, i < ops.size → b i = true → ∀ d ∈ edg ops i, b d = true) → ((List.range ops.size).filter fun i => !b i).length ≤ fuel →
      (∀ k, b k = false → cur k = none) → (∀ k, k < ops.size → Bs.elem k = false → b k = true → cur k = rs k) → p ≤ ops.size → (∀ k, k < ops.size → Bs.elem k = true → b k = decide (k < p)) →
      vdC P T N Bs st0 qs V p (ops.toList.drop p) envv st Q → (∀ t, look envv t = look (envR N ops env0 (fun k => if Bs.elem k = true then cur k else rs k) ops.size) t) →
      ∀ G w a, Ext G0 w0 G w → Inv G w st → RE N G w (envR N ops env0 cur ops.size) a → wpAnyIn (fen ρ) 7 P .any ops Q' fuel listed a w := by
  obtain ⟨hanc, hpar⟩ := drawOkC_parts hok
  have ec : ∀ k, Bs.contains k = Bs.elem k := fun k => rfl
  have allDone : ∀ (listed : Array Bool) (b : Nat → Bool), listed.size = ops.size → (∀ i, i < ops.size → listed.getD i true = b i) → Region.ready .any ops listed = [] → ∀ i, i < ops.size → b i = true := by
    intro listed b hsz hlb hr i
    induction i using Nat.strongRecOn with
    | _ i ih =>
      intro hi
      cases hb : b i with
      | true => rfl
      | false =>
        have : i ∈ Region.ready .any ops listed := edg_ready.2 ⟨hi, by rw [hlb i hi]; exact hb, fun d hd => by
          have hdi := (ancOk_lt hanc hi).1 d hd
          have := hlb d (by omega)
          rw [ih d hdi (by omega)] at this
          have hds : d < listed.size := by omega
          rw [Array.getD_eq_getD_getElem?, Array.getElem?_eq_getElem hds] at this ⊢
          exact this⟩
        rw [hr] at this
        cases this
  have done : ∀ (listed : Array Bool) (b : Nat → Bool) (cur : Nat → Option AV) (p : Nat) (envv : Env) (st : Sto), listed.size = ops.size → (∀ i, i < ops.size → listed.getD i true = b i) → (∀ k, k < ops.size → Bs.elem k = false → b k = true → cur k = rs k) → p ≤ ops.size → (∀ k, k < ops.size → Bs.elem k = true → b k = decide (k < p)) →
      vdC P T N Bs st0 qs V p (ops.toList.drop p) envv st Q → (∀ t, look envv t = look (envR N ops env0 (fun k => if Bs.elem k = true then cur k else rs k) ops.size) t) → Region.ready .any ops listed = [] →
      ∀ G w a, Ext G0 w0 G w → Inv G w st → RE N G w (envR N ops env0 cur ops.size) a → Q' .normal a w := by
    intro listed b cur p envv st hsz hlb hcr hp hbp hv hlk hr G w a hX hI hE
    have hall := allDone listed b hsz hlb hr
    have h1 := vdC_skip (ops := ops) (ops.size - p) (fun j h1 h2 => by
      cases hj : Bs.elem j with
      | false => rfl
      | true =>
        have := hbp j (by omega) hj
        rw [hall j (by omega)] at this
        have := of_decide_eq_true this.symm
        omega) (by omega) hv
    rw [show p + (ops.size - p) = ops.size by omega] at h1
    have e0 : ops.toList.drop ops.size = [] := by rw [List.drop_eq_nil_iff, Array.length_toList]; exact Nat.le_refl _
    rw [e0] at h1
    refine fin G w a envv st hX hI ⟨hE.size, hE.defers, fun t r h => hE.at_ t r ?_⟩ h1.2
    rw [hlk] at h
    rw [← h]
    refine look_envR ops.size (fun j hj _ => ?_)
    cases hjb : Bs.elem j with
    | true => simp
    | false => simp only [Bool.false_eq_true, if_false]; exact hcr j hj hjb (hall j hj)
  intro fuel
  induction fuel with
  | zero =>
    intro listed b cur p envv st hsz hlb hdc hfu hc0 hcr hp hbp hv hlk G w a hX hI hE
    have hr : Region.ready .any ops listed = [] := by
      rw [List.eq_nil_iff_forall_not_mem]
      intro i hi
      obtain ⟨h1, h2, _⟩ := edg_ready.1 hi
      have : i ∈ (List.range ops.size).filter fun i => !b i := List.mem_filter.2 ⟨List.mem_range.2 h1, by rw [← hlb i h1, h2]; rfl⟩
      rw [List.eq_nil_of_length_eq_zero (Nat.le_zero.1 hfu)] at this
      cases this
    exact ⟨hr, done listed b cur p envv st hsz hlb hcr hp hbp hv hlk hr G w a hX hI hE⟩
  | succ fuel ih =>
    intro listed b cur p envv st hsz hlb hdc hfu hc0 hcr hp hbp hv hlk G w a hX hI hE
    refine ⟨fun hr => done listed b cur p envv st hsz hlb hcr hp hbp hv hlk hr G w a hX hI hE, fun i hi => ?_⟩
    obtain ⟨hin, hli, hdeps⟩ := edg_ready.1 hi
    have hbi : b i = false := by rw [← hlb i hin]; exact hli
    have hdep : ∀ d ∈ edg ops i, b d = true := fun d hd => by
      have hdi := (ancOk_lt hanc hin).1 d hd
      have h1 := hdeps d hd
      rw [← hlb d (by omega)]
      have hds : d < listed.size := by omega
      rw [Array.getD_eq_getD_getElem?, Array.getElem?_eq_getElem hds] at h1 ⊢
      exact h1
    have hM : ∀ j ∈ M.getD i [], b j = true := anc_in hanc (b := fun j => b j = true) hdc i hin hdep
    have ho : ops[i]? = some ops[i] := Array.getElem?_eq_getElem hin
    generalize ops[i] = o at ho
    obtain ⟨hdst, hlook, hB, hA⟩ := hpar i o ho
    -- behind it
    have next : ∀ (G' : Gh) (w' : World) (a' : Act) (r : AV) (p' : Nat) (envv' : Env) (st' : Sto), (Bs.elem i = false → rs i = some r) → p' ≤ ops.size → (∀ k, k < ops.size → Bs.elem k = true → bUp b i k = decide (k < p')) →
        vdC P T N Bs st0 qs V p' (ops.toList.drop p') envv' st' Q → (∀ t, look envv' t = look (envR N ops env0 (fun k => if Bs.elem k = true then updR cur i r k else rs k) ops.size) t) →
        Ext G0 w0 G' w' → Inv G' w' st' → RE N G' w' (put N (envR N ops env0 cur ops.size) o.dst r) a' → wpAnyIn (fen ρ) 7 P .any ops Q' fuel (listed.setIfInBounds i true) a' w' := by
      intro G' w' a' r p' envv' st' hr hp' hbp' hv' hlk' hX' hI' hE'
      refine ih _ (bUp b i) (updR cur i r) p' envv' st' (by simp [hsz]) (fun k hk => ?_) (fun k hk hbk d hd => ?_) ?_ (fun k hk => ?_) (fun k hk hkb hbk => ?_) hp' hbp' hv' hlk' G' w' a' hX' hI' ⟨hE'.size, hE'.defers, fun t x h => hE'.at_ t x ?_⟩
      · unfold bUp
        by_cases hki : k = i
        · subst hki
          have hks : k < listed.size := by omega
          simp [Array.getD_eq_getD_getElem?, hks]
        · rw [if_neg hki, ← hlb k hk]
          simp [Array.getD_eq_getD_getElem?, Array.getElem?_setIfInBounds_ne (Ne.symm hki)]
      · unfold bUp at hbk ⊢
        by_cases hki : k = i
        · subst hki
          by_cases hdk : d = k
          · rw [if_pos hdk]
          · rw [if_neg hdk]; exact hdep d hd
        · rw [if_neg hki] at hbk
          by_cases hdk : d = i
          · rw [if_pos hdk]
          · rw [if_neg hdk]; exact hdc k hk hbk d hd
      · have : ((List.range ops.size).filter fun j => !bUp b i j).length < ((List.range ops.size).filter fun j => !b j).length := by
          refine filter_lt (List.mem_range.2 hin) (by rw [hbi]; rfl) (by unfold bUp; rw [if_pos rfl]; rfl) (fun j hj => ?_)
          unfold bUp at hj
          split at hj
          · cases hj
          · exact hj
        omega
      · unfold bUp at hk
        split at hk
        · cases hk
        · rename_i hki; unfold updR; rw [if_neg hki]; exact hc0 k hk
      · unfold updR
        by_cases hki : k = i
        · subst hki; rw [if_pos rfl, hr hkb]
        · rw [if_neg hki]
          unfold bUp at hbk
          rw [if_neg hki] at hbk
          exact hcr k hk hkb hbk
      · rw [← h]
        exact (envR_upd ho (hc0 i hbi) hdst hin t).symm
    unfold wpOpIn
    rw [ho]
    dsimp only
    cases hbe : Bs.elem i with
    | true =>
      obtain ⟨hg, hch⟩ := hB hbe
      have hip : p ≤ i := by
        have := hbp i hin hbe
        rw [hbi] at this
        have := of_decide_eq_false this.symm
        omega
      have hno : ∀ j, p ≤ j → j < i → Bs.elem j = false := fun j h1 h2 => by
        cases hj : Bs.elem j with
        | false => rfl
        | true =>
          have h3 := hM j (hch j hj h2)
          rw [hbp j (by omega) hj] at h3
          have := of_decide_eq_true h3
          omega
      have h1 := vdC_skip (ops := ops) (i - p) (fun j h1 h2 => hno j h1 (by omega)) (by omega) hv
      rw [show p + (i - p) = i by omega] at h1
      have hlt : i < ops.toList.length := by rw [Array.length_toList]; exact hin
      have hoi : ops.toList[i] = o := by
        have : ops.toList[i]? = some o := by simpa using ho
        rw [List.getElem?_eq_getElem hlt] at this
        exact Option.some.inj this
      rw [List.drop_eq_getElem_cons hlt, hoi] at h1
      unfold vdC at h1
      rw [hbe] at h1
      have h1 : vop P T envv st o.op fun r st => vdC P T N Bs st0 qs V (i + 1) (ops.toList.drop (i + 1)) (put N envv o.dst r) st Q := by
        replace h1 := h1.2
        try dsimp only at h1
        split at h1
        · exact h1
        · split at h1
          · exact h1.2
          · exact h1
      have same : ∀ t ∈ o.looksAt ops, look envv t = look (envR N ops env0 cur ops.size) t := fun t ht => by
        rw [hlk]
        refine look_envR ops.size (fun j hj hjd => ?_)
        have hjb := hM j (hlook t ht j hjd)
        cases hjB : Bs.elem j with
        | true => simp
        | false => simp only [Bool.false_eq_true, if_false]; exact (hcr j hj hjB hjb).symm
      have sameEv : ∀ x ∈ o.op.operands, ev envv x = ev (envR N ops env0 cur ops.size) x := fun x hx => by
        cases x with
        | tmp t => exact same t (looks_op hx)
        | _ => rfl
      have h2 := vop_congr sameEv h1
      have hw : Region.wanted o (yielded ops a.tmps) = true := by simp [Region.wanted, hg]
      rw [if_pos hw]
      have hop := vop_ok TP (N := N) (o := o) (K := fun env' s => ∃ r, env' = put N (envR N ops env0 cur ops.size) o.dst r ∧ vdC P T N Bs st0 qs V (i + 1) (ops.toList.drop (i + 1)) (put N envv o.dst r) s Q) (vop_mono (fun r s h => ⟨r, rfl, h⟩) h2)
      refine Oper.wpIn_mono ?_ (hop ρ G w a hI hE Q')
      rintro a' w' ⟨G', env', st', ⟨r, rfl, hvr⟩, q2, q3, q4⟩
      refine next G' w' a' r (i + 1) (put N envv o.dst r) st' (fun h => by rw [hbe] at h; cases h) (by omega) (fun k hk hkb => ?_) hvr (fun t => ?_) (hX.trans q2) q3 q4
      · unfold bUp
        by_cases hki : k = i
        · subst hki; rw [if_pos rfl]; symm; exact decide_eq_true (by omega)
        · rw [if_neg hki, hbp k hk hkb]
          by_cases hkp : k < p
          · rw [decide_eq_true hkp, decide_eq_true (show k < i + 1 by omega)]
          · rw [decide_eq_false hkp]
            symm
            refine decide_eq_false (fun hki2 => ?_)
            have := hno k (by omega) (by omega)
            rw [hkb] at this
            cases this
      · have e : (fun k => if Bs.elem k = true then updR cur i r k else rs k) = updR (fun k => if Bs.elem k = true then cur k else rs k) i r := by
          funext k
          unfold updR
          by_cases hki : k = i
          · subst hki; rw [if_pos rfl, hbe]; simp
          · rw [if_neg hki, if_neg hki]
        rw [e, envR_upd ho (by rw [hbe]; simp; exact hc0 i hbi) hdst hin t]
        exact look_put_congr (hlk t)
    | false =>
      obtain ⟨o', r, ho', hri, hfact⟩ := hf i hin hbe
      rw [ho] at ho'
      cases ho'
      have hnoB := hA hbe
      have same : ∀ t ∈ o.looksAt ops, look (envR N ops env0 rs i) t = look (envR N ops env0 cur ops.size) t := fun t ht => by
        have e1 : look (envR N ops env0 cur ops.size) t = look (envR N ops env0 rs ops.size) t := look_envR ops.size (fun j hj hjd => by
          have hjM := hlook t ht j hjd
          exact hcr j hj (hnoB j hjM) (hM j hjM))
        have e2 : look (envR N ops env0 rs ops.size) t = look (envR N ops env0 rs i) t := by
          have e3 : look (envR N ops env0 rs ops.size) t = look (envR N ops env0 (fun k => if k < i then rs k else none) ops.size) t := look_envR ops.size (fun j hj hjd => by
            have := ((ancOk_lt hanc hin).2 j (hlook t ht j hjd)).1
            simp [this])
          rw [e3, envR_le (k := i) (by omega) (fun j h2 _ _ => by simp; omega)]
          exact congrArg (look · t) (envR_congr i (fun j hj => by simp [hj]))
        rw [e1, e2]
      have sameEv : ∀ x ∈ o.op.operands, ev (envR N ops env0 rs i) x = ev (envR N ops env0 cur ops.size) x := fun x hx => by
        cases x with
        | tmp t => exact same t (looks_op hx)
        | _ => rfl
      have bSame : ∀ k, k < ops.size → Bs.elem k = true → bUp b i k = decide (k < p) := fun k hk hkb => by
        unfold bUp
        rw [if_neg (fun e => by subst e; rw [hbe] at hkb; cases hkb)]
        exact hbp k hk hkb
      have lkSame : ∀ t, look envv t = look (envR N ops env0 (fun k => if Bs.elem k = true then updR cur i r k else rs k) ops.size) t := fun t => by
        rw [hlk]
        refine look_envR ops.size (fun j hj _ => ?_)
        by_cases hji : j = i
        · subst hji; rw [hbe]; simp
        · unfold updR; rw [if_neg hji]
      rcases hfact with ⟨j, want, d, r', hg, hd, hl, hne, rfl⟩ | ⟨hg, hrun⟩
      · rw [same d (looks_guard hg hd)] at hl
        obtain ⟨v, h3, h4⟩ := hE.at_ _ _ hl
        have hw : ¬ (Region.wanted o (yielded ops a.tmps) = true) := by
          rcases hne with ⟨b1, rfl, hne⟩ | ⟨l, rfl⟩
          · have hv : v = .bool b1 := by have := h4.cel; cases this; rfl
            subst hv
            have hy : yielded ops a.tmps j = some b1 := by simp [yielded, hd, h3]
            simp [Region.wanted, hg, hy, hne]
          · have hv : ∃ vs, v = .tuple vs := by cases h4; exact ⟨_, rfl⟩
            obtain ⟨vs, rfl⟩ := hv
            have hy : yielded ops a.tmps j = none := by simp [yielded, hd, h3]
            simp [Region.wanted, hg, hy]
        rw [if_neg hw]
        exact ⟨fun _ _ => trivial, next G w _ (.t []) p envv st (fun _ => hri) hp bSame hv lkSame hX hI (hE.put (.t [] _ rfl (fun j x v h _ => by simp at h)) _)⟩
      · have hw : Region.wanted o (yielded ops a.tmps) = true := by
          rcases hg with hg | ⟨j, want, d, hg, hd, hl⟩
          · simp [Region.wanted, hg]
          · rw [same d (looks_guard hg hd)] at hl
            obtain ⟨v, h3, h4⟩ := hE.at_ _ _ hl
            have hv : v = .bool want := by have := h4.cel; cases this; rfl
            subst hv
            have hy : yielded ops a.tmps j = some want := by simp [yielded, hd, h3]
            simp [Region.wanted, hg, hy]
        rw [if_pos hw]
        have hle : Le (R i) st := by
          refine hR i st (fun hmq => ?_) (vdC_V _ hv)
          · obtain ⟨q, rfl, hq1, hq2, hq3⟩ := hqs i hmq
            have hbq : b q = false := by
              cases hbq : b q with
              | false => rfl
              | true =>
                have := anc_in hanc (b := fun j => b j = true) hdc q hq1 (hdc q hq1 hbq) i hq3
                rw [hbi] at this; cases this
            have hpq : p ≤ q := by
              have := hbp q hq1 hq2
              rw [hbq] at this
              have := of_decide_eq_false this.symm
              omega
            exact vdC_le hq2 hq1 (q - p) (by omega) hv
        have h2 := vop_congr sameEv (hrun st hle)
        have hop := vop_ok TP (N := N) (o := o) (K := fun env' s => env' = put N (envR N ops env0 cur ops.size) o.dst r ∧ s = st) (vop_mono (fun r s h => ⟨by rw [h.1], h.2⟩) h2)
        refine Oper.wpIn_mono ?_ (hop ρ G w a hI hE Q')
        rintro a' w' ⟨G', env', st', ⟨rfl, rfl⟩, q2, q3, q4⟩
        exact next G' w' a' r p envv _ (fun _ => hri) hp bSame hv lkSame (hX.trans q2) q3 q4
/-- a region that draws its order, with a chain of changes -/
theorem Pw.drwV {ρ : Option Nat} (TP : TOk P T) (hm : P.follows .mixedOrders = true) (Bs : List Nat) {id : Nat} (hok : drawOkC ops (mkA ops ops.size) Bs = true) {Q : Exit → Env → Sto → Prop} {env : Env} {st : Sto}
    (R : Nat → Sto) (V : Sto → Prop) (hR : ∀ i s, (Mq.elem i = true → Le st s) → V s → Le (R i) s)
    (hqs : ∀ i, Mq.elem i = true → ∃ q, qs = some q ∧ q < ops.size ∧ Bs.elem q = true ∧ i ∈ (mkA ops ops.size).getD q [])
    (h : vdA P T N ops Bs R 0 ops.toList env fun env => vdC P T N Bs st qs V 0 ops.toList env st (Q .normal)) : Pw (ρ := ρ) P N (.region id ops true) Q env st := ⟨fun G w a hI hE => by
  refine wpIn_region_any hm ?_
  have hI' : Inv G { w with drawn := w.drawn + 1 } st := Inv.heap (w := w) (w' := { w with drawn := w.drawn + 1 }) rfl hI
  have hX0 : Ext G w G { w with drawn := w.drawn + 1 } := Ext.heap (w := w) (w1 := w) (w' := { w with drawn := w.drawn + 1 }) rfl ⟨rfl, rfl, rfl⟩ (Ext.refl G w)
  have hE' := hE.ext hX0
  have hnone : ∀ k, envR N ops env (fun _ => none) k = env := by
    intro k
    induction k with
    | zero => rfl
    | succ k ih =>
      unfold envR
      rw [ih]
      cases ops[k]? <;> rfl
  obtain ⟨rs, h1, h2, h3⟩ := planA (P := P) (T := T) (N := N) (ops := ops) (Bs := Bs) (R := R) (env0 := env) ops.toList 0 (fun _ => none) rfl (Nat.zero_le _) (fun _ _ => rfl) (fun k hk => absurd hk (Nat.not_lt_zero k)) (fun _ _ => rfl) h
  exact drawC_any (ρ := ρ) TP hok h1 h2 hqs hR (Q := Q .normal) (Q' := fun e a' w' => ∃ G' env' st', Q e env' st' ∧ Ext G w G' w' ∧ Inv G' w' st' ∧ RE N G' w' env' a') (G0 := G) (w0 := w)
    (fun G' w' a' env' st' hx hi he hq => ⟨G', env', st', hq, hx, hi, he⟩)
    ops.size (Array.replicate ops.size false) (fun _ => false) (fun _ => none) 0 (envR N ops env rs ops.size) st (by simp) (fun i hi => by simp [Array.getD_eq_getD_getElem?, hi]) (fun i hi h => by cases h) (Nat.le_trans (List.length_filter_le _ _) (by simp))
    (fun _ _ => rfl) (fun k _ _ h => by cases h) (Nat.zero_le _) (fun k _ _ => by simp) h3 (fun t => look_envR ops.size (fun j hj _ => by
      cases hjB : Bs.elem j with
      | true => rw [h2 j hjB]; simp
      | false => simp))
    G { w with drawn := w.drawn + 1 } a hX0 hI' (by rw [hnone]; exact hE')⟩
theorem vone_mono {st : Sto} {env : Env} {op : Op} {F F' : AV → Prop} (hk : ∀ r, F r → F' r) (h : vone P T st env op F) : vone P T st env op F' := by
  unfold vone at h ⊢
  split at h
  · obtain ⟨c, h1, h2⟩ := ev2_ok h
    refine ev2_mk h1 ?_
    split at h2
    · obtain ⟨as, a1, r, a2, a3⟩ := onO_iff.1 h2
      exact onO_mk a1 ⟨r, a2, hk r a3⟩
    · exact h2.elim
  · split at h
    · exact vop_mono (fun r _ h => hk r h) h
    · exact h.elim
theorem vdA_mono {R : Nat → Sto} {F F' : Env → Prop} (hk : ∀ e, F e → F' e) : ∀ (l : List Oper) {i : Nat} {env : Env}, vdA P T N ops Bs R i l env F → vdA P T N ops Bs R i l env F'
  | [], _, _, h => hk _ h
  | o :: l, i, env, h => by
    unfold vdA at h ⊢
    split at h
    · exact vdA_mono hk l h
    · split at h
      · exact vone_mono (fun r h => vdA_mono hk l h) h
      · obtain ⟨d, a1, h⟩ := onO_iff.1 h
        obtain ⟨r, a2, h⟩ := onO_iff.1 h
        refine onO_mk a1 (onO_mk a2 ?_)
        rcases onG_ok h with ⟨⟨l', rfl⟩, hh⟩ | ⟨b, rfl, hh⟩
        · exact vdA_mono hk l hh
        · unfold onG
          dsimp only
          refine onB_iff.2 ?_
          split at hh
          · rw [if_pos ‹_›]; exact vone_mono (fun r h => vdA_mono hk l h) hh
          · rw [if_neg ‹_›]; exact vdA_mono hk l hh
theorem Pw.drwG {ρ : Option Nat} (TP : TOk P T) (hm : P.follows .mixedOrders = true) (Bs : List Nat) {id : Nat} (hok : drawOkC ops (mkA ops ops.size) Bs = true) {Q : Exit → Env → Sto → Prop} {env : Env} {st : Sto}
    (hqs : ∀ i, Mq.elem i = true → ∃ q, qs = some q ∧ q < ops.size ∧ Bs.elem q = true ∧ i ∈ (mkA ops ops.size).getD q [])
    (h : vdA P T N ops Bs (rdst Mq st) 0 ops.toList env fun env => vdB P T N Bs st qs 0 ops.toList env st (Q .normal)) : Pw (ρ := ρ) P N (.region id ops true) Q env st :=
  Pw.drwV TP hm Bs hok (rdst Mq st) (fun _ => True) (fun i s h1 _ => by
    unfold rdst
    cases hmq : Mq.elem i with
    | false => exact fun id o h => by cases h
    | true => exact h1 hmq) hqs (vdA_mono (fun env h => vdC_of _ h) _ h)
/-- .. where the operations read what does not change -/
theorem Pw.drwS {ρ : Option Nat} (TP : TOk P T) (hm : P.follows .mixedOrders = true) (Bs : List Nat) (Z : Sto) {id : Nat} (hok : drawOkC ops (mkA ops ops.size) Bs = true) {Q : Exit → Env → Sto → Prop} {env : Env} {st : Sto}
    (h : vdA P T N ops Bs (fun _ => Z) 0 ops.toList env fun env => vdC P T N Bs st none (Le Z) 0 ops.toList env st (Q .normal)) : Pw (ρ := ρ) P N (.region id ops true) Q env st :=
  Pw.drwV (Mq := []) (qs := none) TP hm Bs hok (fun _ => Z) (Le Z) (fun _ _ _ h => h) (fun i h => by cases h) h
theorem Pw.drwC {ρ : Option Nat} (TP : TOk P T) (hm : P.follows .mixedOrders = true) (Bs : List Nat) {id : Nat} (hok : drawOkC ops (mkA ops ops.size) Bs = true) {Q : Exit → Env → Sto → Prop} {env : Env} {st : Sto}
    (h : vdA P T N ops Bs (rdst [] st) 0 ops.toList env fun env => vdB P T N Bs st none 0 ops.toList env st (Q .normal)) : Pw (ρ := ρ) P N (.region id ops true) Q env st := Pw.drwG (Mq := []) (qs := none) TP hm Bs hok (fun i h => by cases h) h
/-- .. where the operations of Mq read memory, ahead of the operation q, the first that changes old objects -/
theorem Pw.drwQ {ρ : Option Nat} (TP : TOk P T) (hm : P.follows .mixedOrders = true) (Bs : List Nat) (q : Nat) (Mq : List Nat) {id : Nat} (hok : (drawOkC ops (mkA ops ops.size) Bs && (decide (q < ops.size) && (Bs.elem q && Mq.all fun i => ((mkA ops ops.size).getD q []).contains i))) = true) {Q : Exit → Env → Sto → Prop} {env : Env} {st : Sto}
    (h : vdA P T N ops Bs (rdst Mq st) 0 ops.toList env fun env => vdB P T N Bs st (some q) 0 ops.toList env st (Q .normal)) : Pw (ρ := ρ) P N (.region id ops true) Q env st := by
  simp only [Bool.and_eq_true, decide_eq_true_eq] at hok
  refine Pw.drwG (Mq := Mq) (qs := some q) TP hm Bs hok.1 (fun i hi => ⟨q, rfl, hok.2.1, hok.2.2.1, ?_⟩) h
  have := List.all_eq_true.1 hok.2.2.2 i (List.contains_iff_mem.1 hi)
  exact List.contains_iff_mem.1 this
/-- arguments are seen otherwise, once the objects of D no longer change -/
theorem Does.argsD {f : FuncId} {as as' : List AV} {st st' : Sto} {K : AV → Sto → Prop} (D : Nat → Bool) (hs : ∀ id o, st' id = some o → st id = some o ∧ D id = false) (hl : as'.length = as.length) (hv : ∀ (j : Nat) r r', as[j]? = some r → as'[j]? = some r' → FV D st r r') (h : Does P f as' st' K) : Does P f as st K := by
  refine ⟨h.fn, fun G w vs hI hr => ?_⟩
  have h2 := h.out (G.frz D st w) w vs (hI.frz D hs) ⟨by rw [hr.1, hl], fun j r' v h1 h2 => ?_⟩
  · exact h2.mono fun e w' ⟨G', r, s, v, k1, k2, k3, k4⟩ => ⟨G', r, s, v, k1, k2, (Ext.frz G D st w).trans k3, k4⟩
  · have hlt : j < as.length := by rw [← hl]; exact (List.getElem?_eq_some_iff.1 h1).1
    exact (hv j _ r' (List.getElem?_eq_getElem hlt) h1).ok hI (hr.2 j _ v (List.getElem?_eq_getElem hlt) h2)
theorem FV.gl {D : Nat → Bool} {st : Sto} {xs ys : List AC} (h : F2 (Fz D st) xs ys) : FV D st (.g xs) (.g ys) := by
  refine .g xs ys ?_ ?_
  · induction h with
    | nil => rfl
    | cons _ _ ih => simp [ih]
  · intro j c c' h1 h2
    induction h generalizing j with
    | nil => simp at h1
    | cons h t ih =>
      cases j with
      | zero => cases h1; cases h2; exact h
      | succ j => exact ih j h1 h2
theorem F2.get {α β : Type} {R : α → β → Prop} {l : List α} {m : List β} (h : F2 R l m) : l.length = m.length ∧ ∀ (i : Nat) a b, l[i]? = some a → m[i]? = some b → R a b := by
  induction h with
  | nil => exact ⟨rfl, fun i a b h => by simp at h⟩
  | cons h t ih =>
    refine ⟨by simp [ih.1], fun i a b h1 h2 => ?_⟩
    cases i with
    | zero => simp at h1 h2; subst h1; subst h2; exact h
    | succ i => exact ih.2 i a b (by simpa using h1) (by simpa using h2)
theorem Fz.sl2 {D : Nat → Bool} {st : Sto} {sz : Nat} {xs ys : List (List AC)} (h : F2 (F2 (Fz D st)) xs ys) (hr : ∀ r ∈ ys, r.length = sz) : Fz D st (.sl sz xs) (.sl sz ys) :=
  .sl sz xs ys h.get.1.symm (fun i r hi => hr r (List.mem_of_getElem? hi)) fun i r r' j c c' h1 h2 h3 h4 => (h.get.2 i r r' h1 h2).get.2 j c c' h3 h4
theorem F2.same {D : Nat → Bool} {st : Sto} : ∀ (l : List AC), F2 (Fz D st) l l
  | [] => .nil
  | c :: l => .cons (.refl c) (F2.same l)
/-- a list that grew is settled -/
theorem Pw.frzG {ρ : Option Nat} {st0 st : Sto} {sz : Nat} {a : AC} {rows : List (List AC)} {env : Env} {c : Code} {Q : Exit → Env → Sto → Prop} (t : Nat) (keep : List Nat) (hg : Grow st0 sz st a rows) (hr : ∀ r ∈ rows, r.length = sz) (hl : look env t = some (.c a))
    (h : Pw (ρ := ρ) P N c Q ((t, .c (.sl sz rows)) :: sub env keep) st0) : Pw (ρ := ρ) P N c Q env st := by
  obtain ⟨D, h1, h2⟩ := hg.fv hr
  refine Pw.vw (env' := (t, .c (.sl sz rows)) :: sub env keep) (st' := st0) ⟨D, ⟨⟨_, hl, .c _ _ (h1 D fun _ h => h)⟩, ?_⟩, fun i o hi => ⟨hg.1 i o hi, ?_⟩⟩ h
  · have key : ∀ l : Env, EVe env l → EV D st env l := by
      intro l
      induction l with
      | nil => intro _; trivial
      | cons p l ih => intro h; exact ⟨⟨p.2, h.1, .refl _⟩, ih h.2⟩
    exact key _ (EVe.sub keep)
  · cases hd : D i with
    | false => rfl
    | true => rw [h2 i hd] at hi; cases hi
theorem Fin.growR {st0 st : Sto} {sz : Nat} {r : AV} {b : AC} {rows : List (List AC)} {Q : AV → Sto → Prop} (hg : Grow st0 sz st b rows) (hr : ∀ r ∈ rows, r.length = sz) (k : Q (.t [r, .c (.sl sz rows)]) st0) : Fin Q (.t [r, .c b]) st := by
  obtain ⟨D, h1, h2⟩ := hg.fv hr
  refine ⟨D, st0, _, .t _ _ (by simp) (fun j c c' q1 q2 => ?_), fun i o hi => ⟨hg.1 i o hi, ?_⟩, k⟩
  · match j, q1, q2 with
    | 0, q1, q2 => cases q1; cases q2; exact .refl _
    | 1, q1, q2 => cases q1; cases q2; exact .c _ _ (h1 _ fun i h => h)
    | j + 2, q1, q2 => simp at q1
  · cases hd : D i with
    | true => rw [h2 i hd] at hi; cases hi
    | false => rfl
theorem Fin.growL {st0 st : Sto} {sz : Nat} {r : AV} {b : AC} {rows : List (List AC)} {Q : AV → Sto → Prop} (hg : Grow st0 sz st b rows) (hr : ∀ r ∈ rows, r.length = sz) (k : Q (.t [.c (.sl sz rows), r]) st0) : Fin Q (.t [.c b, r]) st := by
  obtain ⟨D, h1, h2⟩ := hg.fv hr
  refine ⟨D, st0, _, .t _ _ (by simp) (fun j c c' q1 q2 => ?_), fun i o hi => ⟨hg.1 i o hi, ?_⟩, k⟩
  · match j, q1, q2 with
    | 0, q1, q2 => cases q1; cases q2; exact .c _ _ (h1 _ fun i h => h)
    | 1, q1, q2 => cases q1; cases q2; exact .refl _
    | j + 2, q1, q2 => simp at q1
  · cases hd : D i with
    | true => rw [h2 i hd] at hi; cases hi
    | false => rfl
end Go.Proofs.YtnafgpgbedcdnaaDoor.D.Pm
namespace Go.Proofs.YtnafgpgbedcdnaaDoor.D.Pm
set_option linter.unusedVariables false
set_option linter.unusedSimpArgs false
open Go
/-- all that was there before is settled -/
def top (w : World) : Gh := ⟨fun _ => False, fun _ => False, fun _ => none, fun k => k < w.heap.size, 0⟩
theorem top_inv (w : World) : Inv (top w) w (fun _ => none) :=
  ⟨fun id o h => (by cases h), fun id g sz h => (by cases h), fun id id' g sz sz' h => (by cases h), fun k h => h, 0, fun id h => (by rcases h with h | h <;> exact h.elim)⟩
theorem Ext.below {w w' : World} {G : Gh} (h : Ext (top w) w G w') : RowKit.Below w.heap.size w w' :=
  ⟨h.out.1, h.out.2.1, h.out.2.2, h.size, fun k hk => h.kept k hk⟩
/-- what reads as a thing of the kind f, and is as ok says -/
def Rd (P : Program) (t : TypeId) {α : Type} (f : α → List AC) (ok : α → Prop) (m : Nat) : Prop :=
  ∀ (H : Type) (enc : TypeId × Value → H) (w : World) (base : Nat) (spare : Nat → Bool) (held : Bool) (fuel : Nat) (cs : List Value) (x : DataW H × List MemPlace),
    fuel ≤ m → DataW.trod enc P w base spare held fuel t cs = some x → ∃ a, ok a ∧ Rel2 (top w) w (f a) cs
theorem rel1 {G : Gh} {w : World} {c : AC} {v : Value} (h : RC G w c v) : Rel2 G w [c] [v] := ⟨rfl, fun j c' v' h1 h2 => by
  match j, h1, h2 with
  | 0, h1, h2 => cases h1; cases h2; exact h
  | j + 1, h1, h2 => simp at h1⟩
theorem Rel2.app {G : Gh} {w : World} {cs ds : List AC} {us vs : List Value} (h : Rel2 G w cs us) (h' : Rel2 G w ds vs) : Rel2 G w (cs ++ ds) (us ++ vs) := by
  refine ⟨by rw [List.length_append, List.length_append, h.1, h'.1], fun j c v h1 h2 => ?_⟩
  have := h.1
  by_cases hj : j < cs.length
  · rw [List.getElem?_append_left hj] at h1
    rw [List.getElem?_append_left (by omega)] at h2
    exact h.2 j c v h1 h2
  · rw [List.getElem?_append_right (by omega)] at h1
    rw [List.getElem?_append_right (by omega)] at h2
    rw [this] at h2
    exact h'.2 _ c v h1 h2
section
variable {P : Program} {t : TypeId} {m : Nat}
theorem Rd.zero {α : Type} {f : α → List AC} {ok : α → Prop} : Rd P t f ok 0 := fun H enc w base spare held fuel cs x hm hx => by
  obtain rfl : fuel = 0 := by omega
  simp [DataW.trod] at hx
theorem Rd.mono {α : Type} {f : α → List AC} {ok ok' : α → Prop} (h : Rd P t f ok m) (i : ∀ a, ok a → ok' a) : Rd P t f ok' m := fun H enc w base spare held fuel cs x hm hx => by
  obtain ⟨a, h1, h2⟩ := h H enc w base spare held fuel cs x hm hx
  exact ⟨a, i a h1, h2⟩
theorem Rd.less {α : Type} {f : α → List AC} {ok : α → Prop} (h : Rd P t f ok (m + 1)) : Rd P t f ok m := fun H enc w base spare held fuel cs x hm hx => h H enc w base spare held fuel cs x (by omega) hx
theorem Rd.int {k : IntKind} (ht : P.underlying t = some (.int k)) : Rd P t (fun n => [.v (.int k n)]) (fun n => (Lit.int k n).wf = true) m := fun H enc w base spare held fuel cs x _ hx => by
  obtain ⟨n, rfl, _, hw⟩ := DataW.trod_int ht hx
  exact ⟨n, hw, rel1 (.v _ rfl)⟩
theorem Rd.str (ht : P.underlying t = some .string) : Rd P t (fun s => [.v (.string s)]) (fun s => s.size ≤ maxLen) m := fun H enc w base spare held fuel cs x _ hx => by
  obtain ⟨s, rfl, _, hw⟩ := DataW.trod_string ht hx
  exact ⟨s, hw, rel1 (.v _ rfl)⟩
theorem trod_bool {H : Type} {enc : TypeId × Value → H} {w : World} {base : Nat} {spare : Nat → Bool} {held : Bool} {fuel : Nat} {cs : List Value} {x : DataW H × List MemPlace}
    (ht : P.underlying t = some .bool) (h : DataW.trod enc P w base spare held fuel t cs = some x) : ∃ b, cs = [.bool b] := by
  cases fuel with
  | zero => simp [DataW.trod] at h
  | succ n =>
    unfold DataW.trod at h
    rw [ht] at h
    split at h <;> simp_all
theorem Rd.bool (ht : P.underlying t = some .bool) : Rd P t (fun b => [.v (.bool b)]) (fun _ => True) m := fun H enc w base spare held fuel cs x _ hx => by
  obtain ⟨s, rfl⟩ := trod_bool ht hx
  exact ⟨s, trivial, rel1 (.v _ rfl)⟩
theorem cells_some {w : World} {base : Nat} {a : Addr} {n : Nat} {cs : List Value} (h : w.cells? base a n = some cs) : cs.length = n ∧ ∀ i u, cs[i]? = some u → w.cell? (a.add i) = some u := by
  unfold World.cells? at h
  split at h
  · have hl : cs.length = n := by simpa using mapM_some_length h
    refine ⟨hl, fun i u hi => ?_⟩
    have hlt : i < n := by
      have := (List.getElem?_eq_some_iff.1 hi).1
      omega
    have := mapM_some_get h i i (by simp [hlt])
    rw [hi] at this
    exact this
  · simp_all
theorem list_of {β α : Type} {Q : Nat → β → α → Prop} : ∀ (es : List β), (∀ i y, es[i]? = some y → ∃ a, Q i y a) → ∃ xs : List α, xs.length = es.length ∧ ∀ (i : Nat) (a : α), xs[i]? = some a → ∃ y, es[i]? = some y ∧ Q i y a := by
  intro es h
  have hx : ∀ i : _root_.Fin es.length, ∃ a, Q i.1 (es[i.1]'i.2) a := fun i => h i.1 _ (List.getElem?_eq_getElem i.2)
  let g : _root_.Fin es.length → α := fun i => Classical.choose (hx i)
  have hg : ∀ i : _root_.Fin es.length, Q i.1 (es[i.1]'i.2) (g i) := fun i => Classical.choose_spec (hx i)
  refine ⟨List.ofFn g, by simp, fun i a hi => ?_⟩
  rw [List.getElem?_ofFn] at hi
  split at hi
  · rename_i hlt
    cases hi
    exact ⟨_, List.getElem?_eq_getElem hlt, hg ⟨i, hlt⟩⟩
  · cases hi
theorem cell_adr {w : World} {a : Addr} {v : Value} (h : w.cell? a = some v) : a = adr a.block a.off ∧ a.block < w.heap.size := by
  obtain ⟨g, o, sp⟩ := a
  unfold World.cell? at h
  dsimp only at h
  cases hg : w.heap[g]? with
  | none => rw [hg] at h; cases h
  | some x =>
    refine ⟨?_, (Array.getElem?_eq_some_iff.1 hg).1⟩
    rw [hg] at h
    cases sp with
    | none => rfl
    | some s => cases x <;> simp at h
theorem Rd.sl {e : TypeId} {sz : Nat} (hsz : 0 < sz) (ht : P.underlying t = some (.slice e)) (hc : P.cellsOf e = sz) {α : Type} {f : α → List AC} {ok : α → Prop} (h : Rd P e f ok m) :
    Rd P t (fun xs : List α => [.sl sz (xs.map f)]) (fun xs => xs.length ≤ maxLen ∧ ∀ x ∈ xs, ok x) m := fun H enc w base spare held fuel cs x hfm hx => by
  rcases DataW.trod_slice ht hx with ⟨rfl, _⟩ | ⟨a, len, cap, elems, rest, n, hfn, rfl, _, _, hl, hm, he, hel, _, _⟩
  · exact ⟨[], ⟨Nat.zero_le _, fun x hx => by cases hx⟩, rel1 (.sl sz [] none 0 0 (fun _ _ => undef) rfl (Nat.le_refl _) (Nat.zero_le _) (fun i cs h => by simp at h) 0 0 (fun h => absurd h (Nat.lt_irrefl _)) (fun i cs j c h => by simp at h) (fun i cs j c h => by simp at h))⟩
  · obtain ⟨xs, hxl, hxs⟩ := list_of (Q := fun i y a2 => ok a2 ∧ ∃ c : List Value, c.length = sz ∧ Rel2 (top w) w (f a2) c ∧ ∀ j u, c[j]? = some u → w.cell? (a.add (i * sz + j)) = some u) elems (by
        intro i y hi
        have hlt : i < len := by
          have := (List.getElem?_eq_some_iff.1 hi).1
          omega
        have hb := hel i hlt
        rw [hi] at hb
        obtain ⟨c, hc1, hc2⟩ := Option.bind_eq_some_iff.1 hb
        obtain ⟨hcl, hcell⟩ := cells_some hc1
        obtain ⟨a2, ho, hk⟩ := h H enc w base spare held n c y (by omega) hc2
        rw [hc] at hcl hcell
        refine ⟨a2, ho, c, hcl, hk, fun j u hj => ?_⟩
        have := hcell j u hj
        rwa [Addr.add_add] at this)
    have hxn : xs.length = len := by omega
    have hrow : ∀ (i : Nat) r, (xs.map f)[i]? = some r → ∃ a2 c, xs[i]? = some a2 ∧ r = f a2 ∧ c.length = sz ∧ r.length = sz ∧ Rel2 (top w) w r c ∧ ∀ j u, c[j]? = some u → w.cell? (a.add (i * sz + j)) = some u := fun i r hi => by
      rw [List.getElem?_map] at hi
      obtain ⟨a2, ha, rfl⟩ := Option.map_eq_some_iff.1 hi
      obtain ⟨y, _, _, c, h1, h2, h3⟩ := hxs i a2 ha
      exact ⟨a2, c, ha, rfl, h1, by rw [← h2.1, h1], h2, h3⟩
    have hadr : 0 < len → a = adr a.block a.off ∧ a.block < w.heap.size := fun hp => by
      have hlt : 0 < (xs.map f).length := by rw [List.length_map]; omega
      obtain ⟨a2, c, _, _, h1, _, _, h3⟩ := hrow 0 _ (List.getElem?_eq_getElem hlt)
      have h5 := h3 0 c[0] (List.getElem?_eq_getElem (by omega))
      rw [show (0 * sz + 0 : Nat) = 0 by omega] at h5
      have e0 : a.add 0 = a := by unfold Addr.add; simp
      rw [e0] at h5
      exact cell_adr h5
    refine ⟨xs, ⟨by omega, fun p hp => ?_⟩, rel1 (.sl sz (xs.map f) (some a) len cap (fun i j => (w.cell? (a.add (i * sz + j))).getD undef) (by rw [List.length_map, hxn]) hl hm (fun i r hi => (hrow i r hi).choose_spec.choose_spec.2.2.2.1) a.block a.off (fun hp => ⟨congrArg some (hadr hp).1, (hadr hp).2⟩) (fun i r j c hi hj => ?_) (fun i r j c hi hj => ?_))⟩
    · obtain ⟨j, hj, rfl⟩ := List.mem_iff_getElem.1 hp
      obtain ⟨y, hy, ho, _⟩ := hxs j _ (List.getElem?_eq_getElem hj)
      exact ho
    · obtain ⟨a2, cv, h0, _, h1, h2, h3, h4⟩ := hrow i r hi
      have hlt : j < cv.length := by have := (List.getElem?_eq_some_iff.1 hj).1; omega
      have hp : 0 < len := by have := (List.getElem?_eq_some_iff.1 h0).1; omega
      have hu := h4 j cv[j] (List.getElem?_eq_getElem hlt)
      have ea := (hadr hp).1
      rw [hu]
      rw [ea, adr_add] at hu
      exact hu
    · obtain ⟨a2, cv, h0, _, h1, h2, h3, h4⟩ := hrow i r hi
      have hlt : j < cv.length := by have := (List.getElem?_eq_some_iff.1 hj).1; omega
      have hu := h4 j cv[j] (List.getElem?_eq_getElem hlt)
      rw [hu]
      exact h3.2 j c _ hj (List.getElem?_eq_getElem hlt)
/-- the fields of a struct, one behind the other, from a place on -/
def RdF (P : Program) (off sz : Nat) (fs : List Field) {α : Type} (f : α → List AC) (ok : α → Prop) (m : Nat) : Prop :=
  ∀ (H : Type) (enc : TypeId × Value → H) (w : World) (base : Nat) (spare : Nat → Bool) (held : Bool) (n : Nat) (cs : List Value),
    n ≤ m → cs.length = off + sz → (∀ (i : Nat) (g : Field), fs[i]? = some g → ∃ x, DataW.trod enc P w base spare held n g.type ((cs.drop g.offset).take (P.cellsOf g.type)) = some x) →
    ∃ a, ok a ∧ Rel2 (top w) w (f a) (cs.drop off)
theorem RdF.last {off sz : Nat} {g : Field} {α : Type} {f : α → List AC} {ok : α → Prop} (ho : g.offset = off) (hc : P.cellsOf g.type = sz) (h : Rd P g.type f ok m) : RdF P off sz [g] f ok m :=
  fun H enc w base spare held n cs hm hl hf => by
    obtain ⟨x, hx⟩ := hf 0 g rfl
    rw [ho, hc, List.take_of_length_le (by rw [List.length_drop]; omega)] at hx
    exact h H enc w base spare held n _ x hm hx
theorem RdF.cons {off s1 s2 : Nat} {g : Field} {fs : List Field} {α β : Type} {f : α → List AC} {f2 : β → List AC} {ok : α → Prop} {ok2 : β → Prop} (ho : g.offset = off) (hc : P.cellsOf g.type = s1) (h : Rd P g.type f ok m) (r : RdF P (off + s1) s2 fs f2 ok2 m) :
    RdF P off (s1 + s2) (g :: fs) (fun x : α × β => f x.1 ++ f2 x.2) (fun x => ok x.1 ∧ ok2 x.2) m :=
  fun H enc w base spare held n cs hm hl hf => by
    obtain ⟨x, hx⟩ := hf 0 g rfl
    rw [ho, hc] at hx
    obtain ⟨a, ha, hk⟩ := h H enc w base spare held n _ x hm hx
    obtain ⟨b, hb, hk2⟩ := r H enc w base spare held n cs hm (by omega) (fun i g hg => hf (i + 1) g (by simpa using hg))
    refine ⟨(a, b), ⟨ha, hb⟩, ?_⟩
    have := hk.app hk2
    rwa [← List.drop_drop, List.take_append_drop] at this
theorem Rd.st {fs : Array Field} {sz : Nat} {α β : Type} {f : α → List AC} {ok : α → Prop} {f' : β → List AC} {ok' : β → Prop} (u : α → β) (hu : ∀ a, f' (u a) = f a ∧ (ok a → ok' (u a))) (ht : P.underlying t = some (.struct fs)) (hc : P.cellsOf t = sz) (h : RdF P 0 sz fs.toList f ok m) :
    Rd P t f' ok' (m + 1) := fun H enc w base spare held fuel cs x hm hx => by
  obtain ⟨xs, n, hfn, _, hl, hn, hall⟩ := DataW.trod_struct ht hx
  obtain ⟨a, ho, hk⟩ := h H enc w base spare held n cs (by omega) (by omega) (fun i f hf => by
    have hf' : fs[i]? = some f := by simpa using hf
    have hi : i < xs.length := by
      have := (Array.getElem?_eq_some_iff.1 hf').1
      omega
    exact ⟨_, (hall i f hf').trans (List.getElem?_eq_getElem hi)⟩)
  refine ⟨u a, (hu a).2 ho, ?_⟩
  rw [(hu a).1]
  simpa using hk
end
/-- an argument that came in: of one cell; of many -/
theorem Rd.arg1 {P : Program} {t : TypeId} {α : Type} {c : α → AC} {ok : α → Prop} (h : ∀ m, Rd P t (fun a => [c a]) ok m) {H : Type} {enc : TypeId × Value → H} {w : World} {base : Nat} {spare : Nat → Bool} {held : Bool} {v : Value} {d : DataW H} {p : List MemPlace}
    (hv : v.cells = #[v]) (hT : DataW.Trod enc P w base spare held t v d p) : ∃ a, ok a ∧ RV (top w) w (.c (c a)) v := by
  obtain ⟨m, hm⟩ := hT
  obtain ⟨a, h1, h2⟩ := h m H enc w base spare held m _ _ (Nat.le_refl _) hm
  rw [hv] at h2
  exact ⟨a, h1, .c _ _ (h2.2 0 _ v rfl rfl)⟩
theorem Rd.argG {P : Program} {t : TypeId} {α : Type} {f : α → List AC} {ok : α → Prop} (h : ∀ m, Rd P t f ok m) {H : Type} {enc : TypeId × Value → H} {w : World} {base : Nat} {spare : Nat → Bool} {held : Bool} {vs : Array Value} {d : DataW H} {p : List MemPlace}
    (hT : DataW.Trod enc P w base spare held t (.agg vs) d p) : ∃ a, ok a ∧ RV (top w) w (.g (f a)) (.agg vs) := by
  obtain ⟨m, hm⟩ := hT
  obtain ⟨a, h1, h2⟩ := h m H enc w base spare held m _ _ (Nat.le_refl _) hm
  exact ⟨a, h1, .g _ _ (by have := h2.1; simpa [Value.cells] using this) (fun j c x a b => h2.2 j c x a (by simpa [Value.cells] using b))⟩
end Go.Proofs.YtnafgpgbedcdnaaDoor.D.Pm

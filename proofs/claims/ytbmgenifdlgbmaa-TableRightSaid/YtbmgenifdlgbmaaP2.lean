/- Words and contracts: a plain machine over the model, and what the functions that a law reaches come to, each for every input that its theorem names. -/
import Derived.Test.YtbmgenifdlgbmaaP1
import Derived.MapKept
import Derived.WideLaws
import Derived.ChangeArms
import Derived.Carry
namespace Go.Proofs.Ytbmgenifdlgbmaa.D.Pm
set_option linter.unusedVariables false
set_option linter.unusedSimpArgs false
open Go
/-- a map whose keys are these texts lies in the block r -/
def Mp (r : Nat) (ks : List ByteArray) (G : Gh) (w : World) : Prop := G.X r ∧ ∃ es clock, w.heap[r]? = some (.map es clock) ∧ es.toList.map (·.key) = ks.map Value.string
theorem Mp.ext {r : Nat} {ks : List ByteArray} {G G' : Gh} {w w' : World} (h : Mp r ks G w) (x : Ext G w G' w') : Mp r ks G' w' := by
  obtain ⟨h1, es, cl, h2, h3⟩ := h
  exact ⟨x.X _ h1, es, cl, (x.kept _ h1).trans h2, h3⟩
/-- all but the block r -/
def Gh.dropX (G : Gh) (r : Nat) : Gh := ⟨G.U, G.R, G.b, fun k => G.X k ∧ k ≠ r⟩
def ExtM (r : Nat) (G : Gh) (w : World) (G' : Gh) (w' : World) : Prop := Ext (G.dropX r) w (G'.dropX r) w'
theorem ExtM.of {r : Nat} {G G' : Gh} {w w' : World} (x : Ext G w G' w') : ExtM r G w G' w' :=
  ⟨⟨x.size, x.U, fun k h => ⟨x.X k h.1, h.2⟩, fun k h => x.kept k h.1, x.live, x.shape⟩, x.R, x.res, x.out⟩
theorem ExtM.refl (r : Nat) (G : Gh) (w : World) : ExtM r G w G w := Ext.refl _ _
theorem ExtM.trans {r : Nat} {G G1 G2 : Gh} {w w1 w2 : World} (h : ExtM r G w G1 w1) (h' : ExtM r G1 w1 G2 w2) : ExtM r G w G2 w2 := Ext.trans h h'
theorem cell_map {w w' : World} {r : Nat} {es : Array MapEntry} {cl : Nat} (h : w.heap[r]? = some (.map es cl)) (hk : ∀ k, k ≠ r → w'.heap[k]? = w.heap[k]?) {a : Addr} {v : Value} (hc : w.cell? a = some v) : w'.cell? a = some v := by
  by_cases hr : a.block = r
  · exfalso
    unfold World.cell? at hc
    rw [hr, h] at hc
    cases hc
  · rw [cell_block (hk _ hr)]; exact hc
theorem RC.map {G : Gh} {w w' : World} {r : Nat} {es : Array MapEntry} {cl : Nat} (h : w.heap[r]? = some (.map es cl)) (hk : ∀ k, k ≠ r → w'.heap[k]? = w.heap[k]?) {c : AC} {v : Value} (hr : RC G w c v) : RC G w' c v := by
  induction hr with
  | v x h => exact .v x h
  | sl sz xs A len cap vs hl hc hm hs g o ha hcell _ ih => exact .sl sz xs A len cap vs hl hc hm hs g o ha (fun i cs j c h1 h2 => cell_map h hk (hcell i cs j c h1 h2)) ih
  | arr id off len A cap hn hc hm h1 =>
    refine .arr id off len A cap hn hc hm (fun g sz hb => ?_)
    obtain ⟨cs, e, h2, h3, h4⟩ := h1 g sz hb
    refine ⟨cs, e, ?_, h3, h4⟩
    rw [hk _ (fun e => by subst e; rw [h] at h2; cases h2)]; exact h2
  | ptr id off A hn h1 => exact .ptr id off A hn h1
  | pe id i j A hn h1 => exact .pe id i j A hn h1
  | ep cs g o vs hX hcell _ ih => exact .ep cs g o vs hX (fun j c h1 => cell_map h hk (hcell j c h1)) ih
  | fn f caps vs hl cv hc _ ih => exact .fn f caps vs hl cv hc ih
theorem RV.map {G : Gh} {w w' : World} {r : Nat} {es : Array MapEntry} {cl : Nat} (h : w.heap[r]? = some (.map es cl)) (hk : ∀ k, k ≠ r → w'.heap[k]? = w.heap[k]?) {c : AV} {v : Value} (hr : RV G w c v) : RV G w' c v := by
  induction hr with
  | c y v h1 => exact .c y v (h1.map h hk)
  | g cs vs hl h1 => exact .g cs vs hl (fun j c v a b => (h1 j c v a b).map h hk)
  | t xs vs hl _ ih => exact .t xs vs hl ih
theorem RE.map {N : Nat} {G : Gh} {w w' : World} {r : Nat} {es : Array MapEntry} {cl : Nat} (h : w.heap[r]? = some (.map es cl)) (hk : ∀ k, k ≠ r → w'.heap[k]? = w.heap[k]?) {env : Env} {a : Act} (hE : RE N G w env a) : RE N G w' env a :=
  ⟨hE.size, hE.defers, fun t x hl => let ⟨v, h1, h2⟩ := hE.at_ t x hl; ⟨v, h1, h2.map h hk⟩⟩
theorem Inv.map {G : Gh} {w w' : World} {st : Sto} {r : Nat} {es : Array MapEntry} {cl : Nat} (hI : Inv G w st) (h : w.heap[r]? = some (.map es cl)) (hk : ∀ k, k ≠ r → w'.heap[k]? = w.heap[k]?) (hs : w'.heap.size = w.heap.size) : Inv G w' st where
  obj := fun id o ho => by
    obtain ⟨g, sz, cs, e, a, b, c, d, f, k⟩ := hI.obj id o ho
    refine ⟨g, sz, cs, e, a, b, ?_, d, f, fun j x v p q => (k j x v p q).map h hk⟩
    rw [hk _ (fun e => by subst e; rw [h] at c; cases c)]; exact c
  lt := fun id g sz hb => by rw [hs]; exact hI.lt id g sz hb
  inj := hI.inj
  X := fun k hX => by rw [hs]; exact hI.X k hX
  new := hI.new
def addKey (ks : List ByteArray) (s : ByteArray) : List ByteArray := if ks.any (fun k => decide (s = k)) = true then ks else ks ++ [s]
theorem any_mem {ks : List ByteArray} {s : ByteArray} : ks.any (fun k => decide (s = k)) = true ↔ s ∈ ks := by
  rw [List.any_eq_true]
  exact ⟨fun ⟨x, h1, h2⟩ => by have := of_decide_eq_true h2; rw [this]; exact h1, fun h => ⟨s, h, decide_eq_true rfl⟩⟩
theorem run_mapUpdate {P : Program} {w : World} {t kt et : TypeId} {r : Nat} {es : Array MapEntry} {cl : Nat} {ks : List ByteArray} {s : ByteArray} {v : Value} (ht : P.underlying t = some (.map kt et)) (hk : P.underlying kt = some .string) (hb : w.heap[r]? = some (.map es cl))
    (hks : es.toList.map (·.key) = ks.map Value.string) : ∃ es' cl', (Instr.mapUpdate t (.map (some r)) (.string s) v).run P w = .ok () { w with heap := w.heap.setIfInBounds r (.map es' cl') } ∧ es'.toList.map (·.key) = (addKey ks s).map Value.string := by
  have hkey : MapKept.IsKey .string (.string s) := trivial
  have hall : ∀ x ∈ es.toList, MapKept.IsKey .string x.key := fun x hx => by
    have : x.key ∈ es.toList.map (·.key) := List.mem_map.2 ⟨x, hx, rfl⟩
    rw [hks] at this
    obtain ⟨y, _, hy⟩ := List.mem_map.1 this
    rw [← hy]; trivial
  rcases MapKept.findNow_spec hkey es.toList 0 hall with ⟨h1, h2⟩ | ⟨j, e0, h1, h2, h3⟩
  · refine ⟨es.push ⟨.string s, v, cl⟩, cl + 1, by simp [Instr.mapUpdate, run_underlying ht, MapKept.run_getObj_map hb, MapKept.run_checkKey hk hkey, MapKept.run_findKey hk h1, MapKept.run_setObj_map _ hb, Result.andThen], ?_⟩
    have hn : s ∉ ks := fun hm => by
      have : Value.string s ∈ es.toList.map (·.key) := by rw [hks]; exact List.mem_map.2 ⟨s, hm, rfl⟩
      obtain ⟨x, hx, hy⟩ := List.mem_map.1 this
      exact h2 x hx hy
    rw [addKey, if_neg (fun h => hn (any_mem.1 h)), List.map_append, ← hks]; simp
  · have hj : es[j]? = some e0 := by simpa using h2
    refine ⟨es.modify j (fun e' => { e' with key := .string s, val := v }), cl, by simp [Instr.mapUpdate, run_underlying ht, MapKept.run_getObj_map hb, MapKept.run_checkKey hk hkey, MapKept.run_findKey hk h1, hj, h3, MapKept.run_keyThatStays hkey, MapKept.run_setObj_map _ hb, Result.andThen], ?_⟩
    have hm : s ∈ ks := by
      have : Value.string s ∈ es.toList.map (·.key) := List.mem_map.2 ⟨e0, List.mem_of_getElem? h2, h3⟩
      rw [hks] at this
      obtain ⟨x, hx, hy⟩ := List.mem_map.1 this
      cases hy
      exact hx
    rw [addKey, if_pos (any_mem.2 hm), ← hks]
    apply List.ext_getElem?
    intro i
    rw [List.getElem?_map, List.getElem?_map, Array.getElem?_toList, Array.getElem?_toList, Array.getElem?_modify]
    by_cases hij : j = i
    · subst hij
      rw [if_pos rfl, hj]
      simp [h3]
    · rw [if_neg hij]
/-- code beside a map -/
structure PwM (P : Program) (N : Nat) (r : Nat) (c : Code) (Q : Exit → Env → Sto → List ByteArray → Prop) (env : Env) (st : Sto) (ks : List ByteArray) : Prop where
  mk ::
  out : ∀ G w a, Inv G w st → RE N G w env a → Mp r ks G w → c.wp P (fun e a' w' => ∃ G' env' st' ks', Q e env' st' ks' ∧ ExtM r G w G' w' ∧ Inv G' w' st' ∧ RE N G' w' env' a' ∧ Mp r ks' G' w') a w
section
variable {P : Program} {N r : Nat} {Q : Exit → Env → Sto → List ByteArray → Prop} {env : Env} {st : Sto} {ks : List ByteArray}
theorem PwM.pw {c : Code} (h : Pw P N c (fun e env st => Q e env st ks) env st) : PwM P N r c Q env st ks :=
  ⟨fun G w a hI hE hM => wp_mono (h.out G w a hI hE) fun e a' w' ⟨G', env', st', h1, h2, h3, h4⟩ => ⟨G', env', st', ks, h1, .of h2, h3, h4, hM.ext h2⟩⟩
theorem PwM.seq {x y : Code} (h : PwM P N r x (fun e env st ks => match e with | .normal => PwM P N r y Q env st ks | e => Q e env st ks) env st ks) : PwM P N r (.seq x y) Q env st ks := ⟨fun G w a hI hE hM => by
  refine wp_seq (wp_mono (h.out G w a hI hE hM) fun e a' w' ⟨G', env', st', ks', h1, h2, h3, h4, h5⟩ => ?_)
  cases e with
  | normal => exact wp_mono (h1.out G' w' a' h3 h4 h5) fun e a2 w2 ⟨G2, e2, s2, k2, b1, b2, b3⟩ => ⟨G2, e2, s2, k2, b1, h2.trans b2, b3⟩
  | _ => exact ⟨G', env', st', ks', h1, h2, h3, h4, h5⟩⟩
theorem PwM.block {id : Nat} {x : Code} (h : PwM P N r x (fun e env st ks => match e with | .exit i => if i = id then Q .normal env st ks else Q (.exit i) env st ks | e => Q e env st ks) env st ks) : PwM P N r (.block id x) Q env st ks := ⟨fun G w a hI hE hM => by
  refine wp_block (wp_mono (h.out G w a hI hE hM) fun e a' w' ⟨G', env', st', ks', h1, h2⟩ => ?_)
  cases e with
  | exit i =>
    dsimp only at h1
    unfold Exit.inBlock
    by_cases hi : i = id
    · simp only [hi, if_true] at h1 ⊢; exact ⟨G', env', st', ks', h1, h2⟩
    · simp only [hi, if_false] at h1 ⊢; exact ⟨G', env', st', ks', h1, h2⟩
  | _ => exact ⟨G', env', st', ks', h1, h2⟩⟩
theorem PwM.vw {c : Code} {env' : Env} {st' : Sto} (hv : Vw env st env' st') (h : PwM P N r c Q env' st' ks) : PwM P N r c Q env st ks := by
  obtain ⟨D, h1, h2⟩ := hv
  refine ⟨fun G w a hI hE hM => ?_⟩
  have x := Ext.frz G D st w
  exact wp_mono (h.out _ w a (hI.frz D h2) (EV.ok hI hE h1) (hM.ext x)) fun e a' w' ⟨G', e', s', k', b1, b2, b3⟩ => ⟨G', e', s', k', b1, (ExtM.of x).trans b2, b3⟩
theorem PwM.mono {c : Code} {Q' : Exit → Env → Sto → List ByteArray → Prop} (h : PwM P N r c Q env st ks) (hq : ∀ e env st ks, Q e env st ks → Q' e env st ks) : PwM P N r c Q' env st ks :=
  ⟨fun G w a hI hE hM => wp_mono (h.out G w a hI hE hM) fun e a' w' ⟨G', env', st', k', h1, h2⟩ => ⟨G', env', st', k', hq _ _ _ _ h1, h2⟩⟩
theorem PwM.loop {σ : Type} (e : σ → Env) (s : σ → Sto) (κ : σ → List ByteArray) (I : σ → Prop) (μ : σ → Nat) {c : Code} (h0 : ∃ x, Vw env st (e x) (s x) ∧ κ x = ks ∧ I x)
    (round : ∀ x, I x → PwM P N r c (fun ex env' st' ks' => match ex with | .normal => ∃ y, Vw env' st' (e y) (s y) ∧ κ y = ks' ∧ I y ∧ μ y < μ x | ex => Q ex env' st' ks') (e x) (s x) (κ x)) : PwM P N r (.loop c) Q env st ks := by
  obtain ⟨x, hv, rfl, hx⟩ := h0
  refine .vw hv ⟨fun G w a hI hE hM => ?_⟩
  have key : ∀ (n : Nat) (x : σ) (G1 : Gh) (w1 : World) (a1 : Act), μ x < n → I x → ExtM r G w G1 w1 → Inv G1 w1 (s x) → RE N G1 w1 (e x) a1 → Mp r (κ x) G1 w1 →
      Code.rounds P c (fun e a' w' => ∃ G' env' st' ks', Q e env' st' ks' ∧ ExtM r G w G' w' ∧ Inv G' w' st' ∧ RE N G' w' env' a' ∧ Mp r ks' G' w') n a1 w1 := by
    intro n
    induction n with
    | zero => intro x G1 w1 a1 h; exact absurd h (Nat.not_lt_zero _)
    | succ n ih =>
      intro x G1 w1 a1 hm hx hX hI hE hM
      rw [rounds_succ]
      refine wp_mono ((round x hx).out G1 w1 a1 hI hE hM) fun ex a2 w2 ⟨G2, e2, s2, k2, h1, h2, h3, h4, h5⟩ => ?_
      cases ex with
      | normal =>
        obtain ⟨y, ⟨D, hv1, hv2⟩, rfl, hy, hlt⟩ := h1
        exact ih y _ w2 a2 (by omega) hy ((hX.trans h2).trans (.of (Ext.frz G2 D s2 w2))) (h3.frz D hv2) (EV.ok h3 h4 hv1) (h5.ext (Ext.frz G2 D s2 w2))
      | _ => exact ⟨G2, e2, s2, k2, h1, hX.trans h2, h3, h4, h5⟩
  exact wp_loop_rounds (μ x + 1) (key _ x G w a (Nat.lt_succ_self _) hx (.refl _ _ _) hI hE hM)
end
/-- an operation beside a map -/
def OpOkM (P : Program) (N r : Nat) (o : Oper) (env : Env) (st : Sto) (ks : List ByteArray) (K : Env → Sto → List ByteArray → Prop) : Prop :=
  ∀ G w a, Inv G w st → RE N G w env a → Mp r ks G w → ∀ Q, o.wp P a w (fun a' w' => ∃ G' env' st' ks', K env' st' ks' ∧ ExtM r G w G' w' ∧ Inv G' w' st' ∧ RE N G' w' env' a' ∧ Mp r ks' G' w') Q
theorem OpOkM.op {P : Program} {N r : Nat} {o : Oper} {env : Env} {st : Sto} {ks : List ByteArray} {K : Env → Sto → List ByteArray → Prop} (h : OpOk P N o env st fun e s => K e s ks) : OpOkM P N r o env st ks K := by
  intro G w a hI hE hM Q
  refine Oper.wp_mono (fun a' w' ⟨G', e, s, h1, h2, h3, h4⟩ => ⟨G', e, s, ks, h1, .of h2, h3, h4, hM.ext h2⟩) (h G w a hI hE Q)
theorem OpOkM.upd {P : Program} {N r : Nat} {o : Oper} {env : Env} {st : Sto} {ks : List ByteArray} {K : Env → Sto → List ByteArray → Prop} {t kt et : TypeId} {m k x : Operand} (ho : o.op = .mapUpdate t m k x) (ht : P.underlying t = some (.map kt et)) (hk : P.underlying kt = some .string)
    (hm : ev env m = some (.c (.v (.map (some r))))) {s : ByteArray} (hs : ev env k = some (vS s)) (h : K (put N env o.dst (.t [])) st (addKey ks s)) : OpOkM P N r o env st ks K := by
  intro G w a hI hE hM Q
  obtain ⟨hX, es, cl, hb, hks⟩ := hM
  have e1 : a.eval m = .map (some r) := by have := (ev_ok hE hm).cel; generalize a.eval m = u at this; cases this; rfl
  have e2 : a.eval k = .string s := by have := (ev_ok hE hs).cel; generalize a.eval k = u at this; cases this; rfl
  obtain ⟨es', cl', hr, hks'⟩ := run_mapUpdate (v := a.eval x) (s := s) ht hk hb hks
  have hlt : r < w.heap.size := (Array.getElem?_eq_some_iff.1 hb).1
  have hoth : ∀ j, j ≠ r → ({ w with heap := w.heap.setIfInBounds r (.map es' cl') } : World).heap[j]? = w.heap[j]? := fun j hj => by simp [Ne.symm hj]
  have hrun : (execOp a.eval o).run P w = .ok .skip { w with heap := w.heap.setIfInBounds r (.map es' cl') } := by
    unfold execOp
    rw [ho]
    simp [e1, e2, hr]
  unfold Oper.wp
  rw [hrun]
  refine ⟨G, _, st, addKey ks s, h, ⟨⟨by simp, fun _ h => h, fun _ h => h, fun k hk => hoth k hk.2, fun _ _ => .inr rfl, fun id g sz _ hb2 cs e hc => ?_⟩, fun _ h => h, fun _ _ h => h, rfl, rfl, rfl⟩, hI.map hb hoth (by simp), (hE.map hb hoth).put (.t [] _ rfl (fun j x v h _ => by simp at h)) _, hX, es', cl', by simp [hlt], hks'⟩
  refine ⟨cs, ?_, rfl⟩
  rw [hoth g (fun e => by subst e; rw [hb] at hc; cases hc)]
  exact hc
theorem und_mp {P : Program} {T : TT} (TP : TOk P T) {t k e : TypeId} {i : TI} (h : T t = some i) (hd : i.d = .mp k e) : P.underlying t = some (.map k e) := by
  obtain ⟨d, h1, h2⟩ := TP.u t i h
  rw [hd] at h2; rw [h1]; exact congrArg some h2
theorem OpOkM.len {P : Program} {N r : Nat} {o : Oper} {env : Env} {st : Sto} {ks : List ByteArray} {K : Env → Sto → List ByteArray → Prop} {t kt et : TypeId} {x : Operand} (ho : o.op = .call { callee := .builtin .len, args := #[x], argTypes := #[t] }) (ht : P.underlying t = some (.map kt et))
    (hm : ev env x = some (.c (.v (.map (some r))))) (h : K (put N env o.dst (vI .i64 (ks.length : Nat))) st ks) : OpOkM P N r o env st ks K := by
  intro G w a hI hE hM Q
  obtain ⟨hX, es, cl, hb, hks⟩ := hM
  have e1 : a.eval x = .map (some r) := by have := (ev_ok hE hm).cel; generalize a.eval x = u at this; cases this; rfl
  have hsz : es.size = ks.length := by have := congrArg List.length hks; simpa using this
  have hu : P.underlying t = some (.map (P.mapKeyOf t) (P.mapElemOf t)) := by simp [Program.mapKeyOf, Program.mapElemOf, ht]
  have hl := Go.run_len_map (P := P) (w := w) t o.type r es cl hu hb
  have hrun : (execOp a.eval o).run P w = .ok (.value (.int .i64 (ks.length : Nat))) w := by
    obtain ⟨dst, op, ty, pos, after, guard⟩ := o
    dsimp only at ho
    subst ho
    have he : execOp a.eval ⟨dst, .call { callee := .builtin .len, args := #[x], argTypes := #[t] }, ty, pos, after, guard⟩ = (do pure (.value (← Builtin.len_ #[t] ty (#[x].map a.eval)))) := rfl
    rw [he]
    simp only [List.map_toArray, List.map_cons, List.map_nil, e1]
    simp only [Sem.run_bind, hl, Result.andThen]
    rw [hsz]; rfl
  unfold Oper.wp
  rw [hrun]
  exact ⟨G, _, st, ks, h, .refl _ _ _, hI, hE.put (RV.one _ rfl) _, hX, es, cl, hb, hks⟩
/-- a region beside a map -/
def vopsM (P : Program) (T : TT) (N r : Nat) : List Oper → Env → Sto → List ByteArray → (Env → Sto → List ByteArray → Prop) → Prop
  | [], env, st, ks, Q => Q env st ks
  | o :: l, env, st, ks, Q => o.guard = none ∧ match o.op with
    | .mapUpdate t m k x => ∃ i kt et j s, T t = some i ∧ i.d = .mp kt et ∧ T kt = some j ∧ j.d = .s ∧ ev env m = some (.c (.v (.map (some r)))) ∧ ev env k = some (vS s) ∧ vopsM P T N r l (put N env o.dst (.t [])) st (addKey ks s) Q
    | .call { callee := .builtin .len, args := as, argTypes := ts } => (∃ t x i kt et, as = #[x] ∧ ts = #[t] ∧ T t = some i ∧ i.d = .mp kt et ∧ ev env x = some (.c (.v (.map (some r)))) ∧ vopsM P T N r l (put N env o.dst (vI .i64 (ks.length : Nat))) st ks Q) ∨
        vop P T env st o.op fun a st => vopsM P T N r l (put N env o.dst a) st ks Q
    | op => vop P T env st op fun a st => vopsM P T N r l (put N env o.dst a) st ks Q
theorem vopsM_ok {P : Program} {T : TT} (TP : TOk P T) {N r : Nat} {ops : Array Oper} {Q : Env → Sto → List ByteArray → Prop} {G0 : Gh} {w0 : World} : ∀ (l : List Oper) (k : Nat), ops.toList.drop k = l → ∀ {env : Env} {st : Sto} {ks : List ByteArray}, vopsM P T N r l env st ks Q → ∀ G w a, ExtM r G0 w0 G w → Inv G w st → RE N G w env a → Mp r ks G w →
    wpOps P ops (fun e a' w' => ∃ G' env' st' ks', e = .normal ∧ Q env' st' ks' ∧ ExtM r G0 w0 G' w' ∧ Inv G' w' st' ∧ RE N G' w' env' a' ∧ Mp r ks' G' w') (List.range' k l.length) a w
  | [], k, hk, env, st, ks, h, G, w, a, hX, hI, hE, hM => ⟨G, env, st, ks, rfl, h, hX, hI, hE, hM⟩
  | o :: l, k, hk, env, st, ks, h, G, w, a, hX, hI, hE, hM => by
    have hko : ops[k]? = some o := by
      have := congrArg (·[0]?) hk
      simpa [List.getElem?_drop] using this
    have hk' : ops.toList.drop (k + 1) = l := by rw [← List.drop_drop, hk]; rfl
    rw [List.length_cons, List.range'_succ, wpOps_cons]
    unfold wpOp
    rw [hko]
    dsimp only
    obtain ⟨hg, h⟩ := h
    have hw : Region.wanted o (yielded ops a.tmps) = true := by simp [Region.wanted, hg]
    rw [if_pos hw]
    refine .inl ?_
    have fin : ∀ (K' : OpOkM P N r o env st ks (fun env st ks => vopsM P T N r l env st ks Q)), ∀ R, Oper.wp P o a w (fun a' w' => wpOps P ops (fun e a' w' => ∃ G' env' st' ks', e = .normal ∧ Q env' st' ks' ∧ ExtM r G0 w0 G' w' ∧ Inv G' w' st' ∧ RE N G' w' env' a' ∧ Mp r ks' G' w') (List.range' (k + 1) l.length) a' w') R := by
      intro K' R
      refine Oper.wp_mono ?_ (K' G w a hI hE hM R)
      rintro a' w' ⟨G', env', st', ks', h1, h2, h3, h4, h5⟩
      exact vopsM_ok TP l (k + 1) hk' h1 G' w' a' (hX.trans h2) h3 h4 h5
    refine fin ?_ _
    split at h
    · rename_i t m kx x ho
      obtain ⟨i, kt, et, j, s, h1, h2, h3, h4, h5, h6, h7⟩ := h
      exact OpOkM.upd ho (und_mp TP h1 h2) (und_s TP h3 h4) h5 h6 h7
    · rename_i as ts ho
      rcases h with ⟨t, x, i, kt, et, rfl, rfl, h1, h2, h3, h4⟩ | h
      · exact OpOkM.len ho (und_mp TP h1 h2) h3 h4
      · exact OpOkM.op (vop_ok TP h)
    · exact OpOkM.op (vop_ok TP h)
theorem PwM.region {P : Program} {T : TT} (TP : TOk P T) {N r id : Nat} {ops : Array Oper} {Q : Exit → Env → Sto → List ByteArray → Prop} {env : Env} {st : Sto} {ks : List ByteArray} (h : vopsM P T N r ops.toList env st ks (Q .normal)) : PwM P N r (.region id ops false) Q env st ks := ⟨fun G w a hI hE hM => by
  refine wp_region (?_ : wpOps P ops _ (List.range ops.size) a w)
  have := vopsM_ok TP (G0 := G) (w0 := w) ops.toList 0 rfl h G w a (.refl _ _ _) hI hE hM
  have e : List.range ops.size = List.range' 0 ops.toList.length := by rw [List.range_eq_range', Array.length_toList]
  rw [e]
  exact wpOps_q (fun e a w ⟨G', env', st', ks', he, h1⟩ => ⟨G', env', st', ks', he ▸ h1⟩) _ _ _ this⟩
/-- a new map, and what goes on beside it -/
theorem Pw.newMap {P : Program} {T : TT} (TP : TOk P T) {N id t d : Nat} {o1 o2 : Oper} {rest : Code} {Q : Exit → Env → Sto → Prop} {env : Env} {st : Sto} (h1 : o1.op = .makeMap t none) (d1 : o1.dst = some d) (g1 : o1.guard = none) (h2 : o2.op = .assign (.tmp d)) (g2 : o2.guard = none) (hN : d < N)
    (h : ∀ r, PwM P N r rest (fun e env st _ => Q e env st) (put N (put N env (some d) (.c (.v (.map (some r))))) o2.dst (.c (.v (.map (some r))))) st []) : Pw P N (.seq (.region id #[o1, o2] false) rest) Q env st := ⟨fun G w a hI hE => by
  refine wp_seq (wp_region (?_ : wpOps P #[o1, o2] _ [0, 1] a w))
  have e1 : (execOp a.eval o1).run P w = .ok (.value (.map (some w.heap.size))) (w.alloc (.map #[] 0)) := by
    unfold execOp
    rw [h1]
    simp [RowKit.run_makeMap]
  have hw1 : Region.wanted o1 (yielded #[o1, o2] a.tmps) = true := by simp [Region.wanted, g1]
  rw [wpOps_cons]
  unfold wpOp
  simp only [List.getElem?_toArray, List.getElem?_cons_zero]
  rw [if_pos hw1]
  refine .inl ?_
  unfold Oper.wp
  rw [e1, Oper.upon_value, wpOps_cons]
  unfold wpOp
  simp only [List.getElem?_toArray, List.getElem?_cons_succ, List.getElem?_cons_zero]
  have hw2 : ∀ ts, Region.wanted o2 (yielded #[o1, o2] ts) = true := fun ts => by simp [Region.wanted, g2]
  rw [if_pos (hw2 _)]
  refine .inl ?_
  have e2 : (execOp (a.put o1.dst (.map (some w.heap.size))).eval o2).run P (w.alloc (.map #[] 0)) = .ok (.value (.map (some w.heap.size))) (w.alloc (.map #[] 0)) := by
    have hlt : d < a.tmps.size := by rw [hE.size]; exact hN
    unfold execOp
    rw [h2, d1]
    simp [Act.put, Act.eval, hlt]
  unfold Oper.wp
  rw [e2, Oper.upon_value]
  let G1 : Gh := ⟨G.U, G.R, G.b, fun k => G.X k ∨ k = w.heap.size⟩
  have hold : ∀ k, k < w.heap.size → (w.alloc (.map #[] 0)).heap[k]? = w.heap[k]? := fun k hk => push_old hk
  have x1 : Ext G w G1 (w.alloc (.map #[] 0)) := ⟨⟨by simp, fun _ h => h, fun _ h => .inl h, fun k hk => hold k (hI.X k hk), fun _ _ => .inr rfl, fun i g z hi hb cs e hc => ⟨cs, by rw [hold g (Array.getElem?_eq_some_iff.1 hc).1]; exact hc, rfl⟩⟩, fun _ h => h, fun _ _ h => h, rfl, rfl, rfl⟩
  have hI1 : Inv G1 (w.alloc (.map #[] 0)) st := ⟨fun i o ho => by
      obtain ⟨g, sz, cs, e, a, b, c, d, f, k⟩ := hI.obj i o ho
      exact ⟨g, sz, cs, e, a, b, by rw [hold g (Array.getElem?_eq_some_iff.1 c).1]; exact c, d, f, fun j x v p q => (k j x v p q).ext x1⟩,
    fun i g sz hb => by
      obtain ⟨a, b, c⟩ := hI.lt i g sz hb
      exact ⟨a, by simp; omega, fun hX => hX.elim c (fun e => by omega)⟩, hI.inj, fun k hk => by
      rcases hk with hk | rfl
      · have := hI.X k hk; simp; omega
      · simp, hI.new⟩
  have hE1 : RE N G1 (w.alloc (.map #[] 0)) (put N (put N env (some d) (.c (.v (.map (some w.heap.size))))) o2.dst (.c (.v (.map (some w.heap.size))))) ((a.put o1.dst (.map (some w.heap.size))).put o2.dst (.map (some w.heap.size))) := by
    rw [d1]
    exact ((hE.ext x1).put (RV.one _ rfl) _).put (RV.one _ rfl) _
  have hM1 : Mp w.heap.size [] G1 (w.alloc (.map #[] 0)) := ⟨.inr rfl, #[], 0, heap_alloc_new w _, rfl⟩
  refine wp_mono ((h w.heap.size).out G1 _ _ hI1 hE1 hM1) fun e a' w' ⟨G', env', st', ks', q1, q2, q3, q4, q5⟩ => ⟨G', env', st', q1, ?_, q3, q4⟩
  have hne : ∀ k, G.X k → k ≠ w.heap.size := fun k hk e => by have := hI.X k hk; omega
  exact ⟨⟨Nat.le_trans x1.size q2.size, q2.U, fun k hk => (q2.X k ⟨.inl hk, hne k hk⟩).1, fun k hk => (q2.kept k ⟨.inl hk, hne k hk⟩).trans (hold k (hI.X k hk)), q2.live, fun i g z hi hb cs e hc => q2.shape i g z hi hb cs e (by rw [hold g (Array.getElem?_eq_some_iff.1 hc).1]; exact hc)⟩, q2.R, q2.res, q2.out⟩⟩
end Go.Proofs.Ytbmgenifdlgbmaa.D.Pm
namespace Go.Proofs.Ytbmgenifdlgbmaa.D.Pm
set_option linter.unusedVariables false
set_option linter.unusedSimpArgs false
open Go
/-! ### draws with a chain of changes: the operations of Bs stand in one order, the others hang on none of them and on no memory that changes -/
section
variable (N : Nat) (ops : Array Oper) (env0 : Env)
def envR (rs : Nat → Option AV) : Nat → Env
  | 0 => env0
  | k + 1 => match ops[k]?, rs k with
    | some o, some r => put N (envR rs k) o.dst r
    | _, _ => envR rs k
def updR (rs : Nat → Option AV) (i : Nat) (r : AV) : Nat → Option AV := fun k => if k = i then some r else rs k
end
variable {P : Program} {T : TT} {N : Nat} {ops : Array Oper} {env0 : Env} {rs rs' : Nat → Option AV}
theorem envR_congr : ∀ (k : Nat), (∀ j, j < k → rs j = rs' j) → envR N ops env0 rs k = envR N ops env0 rs' k
  | 0, _ => rfl
  | k + 1, h => by
    unfold envR
    rw [h k (Nat.lt_succ_self _), envR_congr k (fun j hj => h j (by omega))]
theorem look_envR {t : Tmp} : ∀ (k : Nat), (∀ j, j < k → (ops[j]?).bind (·.dst) = some t → rs j = rs' j) → look (envR N ops env0 rs k) t = look (envR N ops env0 rs' k) t
  | 0, _ => rfl
  | k + 1, h => by
    have ih := look_envR (t := t) k (fun j hj => h j (by omega))
    unfold envR
    cases ho : ops[k]? with
    | none => exact ih
    | some o =>
      by_cases hd : o.dst = some t
      · rw [h k (Nat.lt_succ_self _) (by rw [ho]; exact hd)]
        cases rs' k with
        | none => exact ih
        | some r => exact look_put_congr ih
      · cases rs k <;> cases rs' k <;> simp only [look_put hd, ih]
theorem envR_le {t : Tmp} {k n : Nat} (hk : k ≤ n) (h : ∀ j, k ≤ j → j < n → (ops[j]?).bind (·.dst) = some t → rs j = none) : look (envR N ops env0 rs n) t = look (envR N ops env0 rs k) t := by
  induction n with
  | zero =>
    have hk0 : k = 0 := by omega
    subst hk0; rfl
  | succ n ih =>
    by_cases hkn : k = n + 1
    · subst hkn; rfl
    · have := ih (by omega) (fun j h1 h2 => h j h1 (by omega))
      rw [← this]
      conv => lhs; unfold envR
      cases ho : ops[n]? with
      | none => rfl
      | some o =>
        by_cases hd : o.dst = some t
        · rw [h n (by omega) (Nat.lt_succ_self _) (by rw [ho]; exact hd)]
        · cases rs n with
          | none => rfl
          | some r => exact look_put hd
theorem envR_upd {i : Nat} {o : Oper} {r : AV} (ho : ops[i]? = some o) (hn : rs i = none) (hu : ∀ d, o.dst = some d → ∀ j, (ops[j]?).bind (·.dst) = some d → j = i) {n : Nat} (hi : i < n) (t : Tmp) :
    look (envR N ops env0 (updR rs i r) n) t = look (put N (envR N ops env0 rs n) o.dst r) t := by
  by_cases hd : o.dst = some t
  · have e1 : look (envR N ops env0 (updR rs i r) n) t = look (envR N ops env0 (updR rs i r) (i + 1)) t := by
      have h1 : look (envR N ops env0 (updR rs i r) n) t = look (envR N ops env0 (fun k => if k ≤ i then updR rs i r k else none) n) t :=
        look_envR n (fun j hj hjd => by rw [hu t hd j hjd]; simp)
      rw [h1, envR_le (k := i + 1) (by omega) (fun j h2 _ _ => by simp; omega)]
      exact congrArg (look · t) (envR_congr (i + 1) (fun j hj => by simp; omega))
    have e2 : envR N ops env0 (updR rs i r) (i + 1) = put N (envR N ops env0 (updR rs i r) i) o.dst r := by
      conv => lhs; unfold envR
      rw [ho]
      simp [updR]
    have e3 : envR N ops env0 (updR rs i r) i = envR N ops env0 rs i := envR_congr i (fun j hj => by unfold updR; rw [if_neg (by omega)])
    have e4 : look (envR N ops env0 rs n) t = look (envR N ops env0 rs i) t := envR_le (by omega) (fun j h1 h2 hj => by rw [hu t hd j hj]; exact hn)
    rw [e1, e2, e3, hd, look_put_same, look_put_same, e4]
  · rw [look_put hd]
    exact look_envR n (fun j hj hjd => by
      unfold updR
      rw [if_neg (fun e => by subst e; rw [ho] at hjd; exact hd hjd)])
def drawOkC (ops : Array Oper) (M : List (List Nat)) (Bs : List Nat) : Bool :=
  ancOk ops M && (List.range ops.size).all fun i => match ops[i]? with
    | some o => (match o.dst with | some d => dsts ops d == [i] | none => true) && (((o.looksAt ops).all fun t => (dsts ops t).all fun j => (M.getD i []).contains j) &&
      (if Bs.contains i then o.guard.isNone && Bs.all (fun j => decide (i ≤ j) || (M.getD i []).contains j) else (M.getD i []).all fun j => !Bs.contains j))
    | none => true
theorem drawOkC_parts {M : List (List Nat)} {Bs : List Nat} (h : drawOkC ops M Bs = true) : ancOk ops M = true ∧ ∀ i o, ops[i]? = some o → (∀ d, o.dst = some d → ∀ j, (ops[j]?).bind (·.dst) = some d → j = i) ∧
    (∀ t ∈ o.looksAt ops, ∀ j, (ops[j]?).bind (·.dst) = some t → j ∈ M.getD i []) ∧ (Bs.contains i = true → o.guard = none ∧ ∀ j, Bs.contains j = true → j < i → j ∈ M.getD i []) ∧ (Bs.contains i = false → ∀ j ∈ M.getD i [], Bs.contains j = false) := by
  unfold drawOkC at h
  rw [Bool.and_eq_true] at h
  refine ⟨h.1, fun i o ho => ?_⟩
  have hi : i < ops.size := (Array.getElem?_eq_some_iff.1 ho).1
  have h2 := List.all_eq_true.1 h.2 i (List.mem_range.2 hi)
  rw [ho] at h2
  dsimp only at h2
  rw [Bool.and_eq_true, Bool.and_eq_true] at h2
  have mem : ∀ t j, (ops[j]?).bind (·.dst) = some t → j ∈ dsts ops t := fun t j hj => by
    have hlt : j < ops.size := by
      cases hq : ops[j]? with
      | none => rw [hq] at hj; cases hj
      | some q => exact (Array.getElem?_eq_some_iff.1 hq).1
    exact List.mem_filter.2 ⟨List.mem_range.2 hlt, by rw [hj]; simp⟩
  refine ⟨fun d hd j hj => ?_, fun t ht j hj => ?_, fun hb => ?_, fun hb j hj => ?_⟩
  · have h3 := h2.1
    rw [hd] at h3
    have h4 : dsts ops d = [i] := by simpa using h3
    have := mem d j hj
    rw [h4] at this
    simpa using this
  · have h3 := List.all_eq_true.1 h2.2.1 t ht
    have h4 := List.all_eq_true.1 h3 j (mem t j hj)
    rwa [List.contains_iff_mem] at h4
  · have h3 := h2.2.2
    rw [if_pos hb, Bool.and_eq_true] at h3
    refine ⟨by simpa using h3.1, fun j hj hlt => ?_⟩
    have h4 := List.all_eq_true.1 h3.2 j (List.contains_iff_mem.1 hj)
    simp only [Bool.or_eq_true, decide_eq_true_eq] at h4
    rcases h4 with h4 | h4
    · omega
    · exact List.contains_iff_mem.1 h4
  · have h3 := h2.2.2
    rw [if_neg (by rw [hb]; simp)] at h3
    have h4 := List.all_eq_true.1 h3 j hj
    simpa using h4
section
variable (P : Program) (T : TT) (N : Nat) (ops : Array Oper) (Bs : List Nat)
def vdA : Nat → List Oper → Env → (Env → Prop) → Prop
  | _, [], env, F => F env
  | i, o :: l, env, F => match Bs.elem i with
    | true => vdA (i + 1) l env F
    | false => match o.guard with
      | none => vone P T (fun _ => none) env o.op fun r => vdA (i + 1) l (put N env o.dst r) F
      | some (j, want) => onO ((ops[j]?).bind (·.dst)) fun d => onO (look env d) fun r => onG r (vdA (i + 1) l (put N env o.dst (.t [])) F) fun b =>
          if b = want then vone P T (fun _ => none) env o.op fun r => vdA (i + 1) l (put N env o.dst r) F else vdA (i + 1) l (put N env o.dst (.t [])) F
def vdB : Nat → List Oper → Env → Sto → (Env → Sto → Prop) → Prop
  | _, [], env, st, Q => Q env st
  | i, o :: l, env, st, Q => match Bs.elem i with
    | true => vop P T env st o.op fun r st => vdB (i + 1) l (put N env o.dst r) st Q
    | false => vdB (i + 1) l env st Q
def FactA (env0 : Env) (rs : Nat → Option AV) (k : Nat) : Prop :=
  ∃ o r, ops[k]? = some o ∧ rs k = some r ∧
    ((∃ j want d r', o.guard = some (j, want) ∧ (ops[j]?).bind (·.dst) = some d ∧ look (envR N ops env0 rs k) d = some r' ∧ notIs r' want ∧ r = .t []) ∨
     ((o.guard = none ∨ ∃ j want d, o.guard = some (j, want) ∧ (ops[j]?).bind (·.dst) = some d ∧ look (envR N ops env0 rs k) d = some (.c (.v (.bool want)))) ∧
      ∀ st', vop P T (envR N ops env0 rs k) st' o.op fun r' s => r' = r ∧ s = st'))
end
variable {Bs : List Nat}
theorem FactA.congr {k : Nat} (h : ∀ j, j ≤ k → rs j = rs' j) (hf : FactA P T N ops env0 rs k) : FactA P T N ops env0 rs' k := by
  unfold FactA at hf ⊢
  rw [envR_congr k (rs' := rs') (fun j hj => h j (by omega)), h k (Nat.le_refl _)] at hf
  exact hf
theorem planA {F : Env → Prop} : ∀ (l : List Oper) (i : Nat) (rs : Nat → Option AV), ops.toList.drop i = l → i ≤ ops.size → (∀ k, i ≤ k → rs k = none) → (∀ k, k < i → Bs.elem k = false → FactA P T N ops env0 rs k) → (∀ k, Bs.elem k = true → rs k = none) →
    vdA P T N ops Bs i l (envR N ops env0 rs i) F → ∃ rs', (∀ k, k < ops.size → Bs.elem k = false → FactA P T N ops env0 rs' k) ∧ (∀ k, Bs.elem k = true → rs' k = none) ∧ F (envR N ops env0 rs' ops.size)
  | [], i, rs, hd, hi, h0, hf, hb, h => by
    have hn : ops.size ≤ i := by
      have := congrArg List.length hd
      simp at this; omega
    have he : i = ops.size := by omega
    subst he
    exact ⟨rs, hf, hb, h⟩
  | o :: l, i, rs, hd, hi, h0, hf, hb, h => by
    have ho : ops[i]? = some o := by
      have := congrArg (·[0]?) hd
      simpa [List.getElem?_drop] using this
    have hd' : ops.toList.drop (i + 1) = l := by rw [← List.drop_drop, hd]; rfl
    have hi' : i < ops.size := (Array.getElem?_eq_some_iff.1 ho).1
    unfold vdA at h
    cases hbi : Bs.elem i with
    | true =>
      rw [hbi] at h
      have e : envR N ops env0 rs (i + 1) = envR N ops env0 rs i := by
        conv => lhs; unfold envR
        rw [ho, h0 i (Nat.le_refl _)]
      refine planA l (i + 1) rs hd' hi' (fun k hk => h0 k (by omega)) (fun k hk hkb => ?_) hb (by rw [e]; exact h)
      by_cases hki : k = i
      · subst hki; rw [hbi] at hkb; cases hkb
      · exact hf k (by omega) hkb
    | false =>
      rw [hbi] at h
      dsimp only at h
      have step : ∀ r, FactA P T N ops env0 (updR rs i r) i → vdA P T N ops Bs (i + 1) l (put N (envR N ops env0 rs i) o.dst r) F →
          ∃ rs', (∀ k, k < ops.size → Bs.elem k = false → FactA P T N ops env0 rs' k) ∧ (∀ k, Bs.elem k = true → rs' k = none) ∧ F (envR N ops env0 rs' ops.size) := by
        intro r hfr hv
        have e : envR N ops env0 (updR rs i r) (i + 1) = put N (envR N ops env0 rs i) o.dst r := by
          conv => lhs; unfold envR
          rw [ho]
          rw [show updR rs i r i = some r from by simp [updR], envR_congr i (rs' := rs) (fun j hj => by unfold updR; rw [if_neg (by omega)])]
        refine planA l (i + 1) (updR rs i r) hd' hi' (fun k hk => by unfold updR; rw [if_neg (by omega)]; exact h0 k (by omega)) (fun k hk hkb => ?_) (fun k hkb => ?_) (by rw [e]; exact hv)
        · by_cases hki : k = i
          · subst hki; exact hfr
          · exact (hf k (by omega) hkb).congr (fun j hj => by unfold updR; rw [if_neg (by omega)])
        · unfold updR
          rw [if_neg (fun e => by subst e; rw [hbi] at hkb; cases hkb)]
          exact hb k hkb
      have hek : ∀ r, envR N ops env0 (updR rs i r) i = envR N ops env0 rs i := fun r => envR_congr i (fun j hj => by unfold updR; rw [if_neg (by omega)])
      have hri : ∀ r, updR rs i r i = some r := fun r => by simp [updR]
      have run : (o.guard = none ∨ ∃ j want d, o.guard = some (j, want) ∧ (ops[j]?).bind (·.dst) = some d ∧ look (envR N ops env0 rs i) d = some (.c (.v (.bool want)))) →
          vone P T (fun _ => none) (envR N ops env0 rs i) o.op (fun r => vdA P T N ops Bs (i + 1) l (put N (envR N ops env0 rs i) o.dst r) F) →
          ∃ rs', (∀ k, k < ops.size → Bs.elem k = false → FactA P T N ops env0 rs' k) ∧ (∀ k, Bs.elem k = true → rs' k = none) ∧ F (envR N ops env0 rs' ops.size) := by
        intro hg hr
        obtain ⟨r, h1, h2⟩ := vone_det hr
        refine step r ⟨o, r, ho, hri r, .inr ⟨?_, fun st' => ?_⟩⟩ h1
        · rw [hek]; exact hg
        · rw [hek]; exact h2 st' (fun id o h => by cases h)
      cases hgd : o.guard with
      | none =>
        rw [hgd] at h
        exact run (.inl hgd) h
      | some jw =>
        obtain ⟨j, want⟩ := jw
        rw [hgd] at h
        dsimp only at h
        obtain ⟨d, h1, hh1⟩ := onO_iff.1 h
        obtain ⟨r, h2, hh2⟩ := onO_iff.1 hh1
        rcases onG_ok hh2 with ⟨⟨l', rfl⟩, hh⟩ | ⟨b, rfl, hh⟩
        · exact step (.t []) ⟨o, _, ho, hri _, .inl ⟨j, want, d, _, hgd, h1, by rw [hek]; exact h2, .inr ⟨l', rfl⟩, rfl⟩⟩ hh
        · by_cases hbw : b = want
          · rw [if_pos hbw] at hh
            exact run (.inr ⟨j, want, d, hgd, h1, hbw ▸ h2⟩) hh
          · rw [if_neg hbw] at hh
            exact step (.t []) ⟨o, _, ho, hri _, .inl ⟨j, want, d, _, hgd, h1, by rw [hek]; exact h2, .inl ⟨b, rfl, hbw⟩, rfl⟩⟩ hh
theorem vdB_skip {Q : Env → Sto → Prop} {env : Env} {st : Sto} {p : Nat} : ∀ (m : Nat), (∀ j, p ≤ j → j < p + m → Bs.elem j = false) → p + m ≤ ops.size → vdB P T N Bs p (ops.toList.drop p) env st Q → vdB P T N Bs (p + m) (ops.toList.drop (p + m)) env st Q
  | 0, _, _, h => h
  | m + 1, hb, hm, h => by
    have h1 := vdB_skip m (fun j h1 h2 => hb j h1 (by omega)) (by omega) h
    have hlt : p + m < ops.toList.length := by rw [Array.length_toList]; omega
    rw [List.drop_eq_getElem_cons hlt] at h1
    unfold vdB at h1
    rw [hb (p + m) (by omega) (by omega)] at h1
    exact h1
theorem drawC_any (TP : TOk P T) {M : List (List Nat)} (hok : drawOkC ops M Bs = true) (hf : ∀ k, k < ops.size → Bs.elem k = false → FactA P T N ops env0 rs k) (hrb : ∀ k, Bs.elem k = true → rs k = none) {Q : Env → Sto → Prop} {Q' : Exit → Act → World → Prop} {G0 : Gh} {w0 : World}
    (fin : ∀ G w a env st, Ext G0 w0 G w → Inv G w st → RE N G w env a → Q env st → Q' .normal a w) :
    ∀ (fuel : Nat) (listed : Array Bool) (b : Nat → Bool) (cur : Nat → Option AV) (p : Nat) (envv : Env) (st : Sto), listed.size = ops.size → (∀ i, i < ops.size → listed.getD i true = b i) → (∀ i, i < ops.size → b i = true → ∀ d ∈ edg ops i, b d = true) → ((List.range ops.size).filter fun i => !b i).length ≤ fuel →
      (∀ k, b k = false → cur k = none) → (∀ k, k < ops.size → Bs.elem k = false → b k = true → cur k = rs k) → p ≤ ops.size → (∀ k, k < ops.size → Bs.elem k = true → b k = decide (k < p)) →
      vdB P T N Bs p (ops.toList.drop p) envv st Q → (∀ t, look envv t = look (envR N ops env0 (fun k => if Bs.elem k = true then cur k else rs k) ops.size) t) →
      ∀ G w a, Ext G0 w0 G w → Inv G w st → RE N G w (envR N ops env0 cur ops.size) a → wpAny P .any ops Q' fuel listed a w := by
  obtain ⟨hanc, hpar⟩ := drawOkC_parts hok
  have ec : ∀ k, Bs.contains k = Bs.elem k := fun k => rfl
  have allDone : ∀ (listed : Array Bool) (b : Nat → Bool), listed.size = ops.size → (∀ i, i < ops.size → listed.getD i true = b i) → Region.ready .any ops listed = [] → ∀ i, i < ops.size → b i = true := by
    intro listed b hsz hlb hr i
    induction i using Nat.strongRecOn with
    | _ i ih =>
      intro hi
      cases hb : b i with
      | true => rfl
      | false =>
        have : i ∈ Region.ready .any ops listed := edg_ready.2 ⟨hi, by rw [hlb i hi]; exact hb, fun d hd => by
          have hdi := (ancOk_lt hanc hi).1 d hd
          have := hlb d (by omega)
          rw [ih d hdi (by omega)] at this
          have hds : d < listed.size := by omega
          rw [Array.getD_eq_getD_getElem?, Array.getElem?_eq_getElem hds] at this ⊢
          exact this⟩
        rw [hr] at this
        cases this
  have done : ∀ (listed : Array Bool) (b : Nat → Bool) (cur : Nat → Option AV) (p : Nat) (envv : Env) (st : Sto), listed.size = ops.size → (∀ i, i < ops.size → listed.getD i true = b i) → (∀ k, k < ops.size → Bs.elem k = false → b k = true → cur k = rs k) → p ≤ ops.size → (∀ k, k < ops.size → Bs.elem k = true → b k = decide (k < p)) →
      vdB P T N Bs p (ops.toList.drop p) envv st Q → (∀ t, look envv t = look (envR N ops env0 (fun k => if Bs.elem k = true then cur k else rs k) ops.size) t) → Region.ready .any ops listed = [] →
      ∀ G w a, Ext G0 w0 G w → Inv G w st → RE N G w (envR N ops env0 cur ops.size) a → Q' .normal a w := by
    intro listed b cur p envv st hsz hlb hcr hp hbp hv hlk hr G w a hX hI hE
    have hall := allDone listed b hsz hlb hr
    have h1 := vdB_skip (ops := ops) (ops.size - p) (fun j h1 h2 => by
      cases hj : Bs.elem j with
      | false => rfl
      | true =>
        have := hbp j (by omega) hj
        rw [hall j (by omega)] at this
        have := of_decide_eq_true this.symm
        omega) (by omega) hv
    rw [show p + (ops.size - p) = ops.size by omega] at h1
    have e0 : ops.toList.drop ops.size = [] := by rw [List.drop_eq_nil_iff, Array.length_toList]; exact Nat.le_refl _
    rw [e0] at h1
    refine fin G w a envv st hX hI ⟨hE.size, hE.defers, fun t r h => hE.at_ t r ?_⟩ h1
    rw [hlk] at h
    rw [← h]
    refine look_envR ops.size (fun j hj _ => ?_)
    cases hjb : Bs.elem j with
    | true => simp
    | false => simp only [Bool.false_eq_true, if_false]; exact hcr j hj hjb (hall j hj)
  intro fuel
  induction fuel with
  | zero =>
    intro listed b cur p envv st hsz hlb hdc hfu hc0 hcr hp hbp hv hlk G w a hX hI hE
    have hr : Region.ready .any ops listed = [] := by
      rw [List.eq_nil_iff_forall_not_mem]
      intro i hi
      obtain ⟨h1, h2, _⟩ := edg_ready.1 hi
      have : i ∈ (List.range ops.size).filter fun i => !b i := List.mem_filter.2 ⟨List.mem_range.2 h1, by rw [← hlb i h1, h2]; rfl⟩
      rw [List.eq_nil_of_length_eq_zero (Nat.le_zero.1 hfu)] at this
      cases this
    exact ⟨hr, done listed b cur p envv st hsz hlb hcr hp hbp hv hlk hr G w a hX hI hE⟩
  | succ fuel ih =>
    intro listed b cur p envv st hsz hlb hdc hfu hc0 hcr hp hbp hv hlk G w a hX hI hE
    refine ⟨fun hr => done listed b cur p envv st hsz hlb hcr hp hbp hv hlk hr G w a hX hI hE, fun i hi => ?_⟩
    obtain ⟨hin, hli, hdeps⟩ := edg_ready.1 hi
    have hbi : b i = false := by rw [← hlb i hin]; exact hli
    have hdep : ∀ d ∈ edg ops i, b d = true := fun d hd => by
      have hdi := (ancOk_lt hanc hin).1 d hd
      have h1 := hdeps d hd
      rw [← hlb d (by omega)]
      have hds : d < listed.size := by omega
      rw [Array.getD_eq_getD_getElem?, Array.getElem?_eq_getElem hds] at h1 ⊢
      exact h1
    have hM : ∀ j ∈ M.getD i [], b j = true := anc_in hanc (b := fun j => b j = true) hdc i hin hdep
    have ho : ops[i]? = some ops[i] := Array.getElem?_eq_getElem hin
    generalize ops[i] = o at ho
    obtain ⟨hdst, hlook, hB, hA⟩ := hpar i o ho
    -- behind it
    have next : ∀ (G' : Gh) (w' : World) (a' : Act) (r : AV) (p' : Nat) (envv' : Env) (st' : Sto), (Bs.elem i = false → rs i = some r) → p' ≤ ops.size → (∀ k, k < ops.size → Bs.elem k = true → bUp b i k = decide (k < p')) →
        vdB P T N Bs p' (ops.toList.drop p') envv' st' Q → (∀ t, look envv' t = look (envR N ops env0 (fun k => if Bs.elem k = true then updR cur i r k else rs k) ops.size) t) →
        Ext G0 w0 G' w' → Inv G' w' st' → RE N G' w' (put N (envR N ops env0 cur ops.size) o.dst r) a' → wpAny P .any ops Q' fuel (listed.setIfInBounds i true) a' w' := by
      intro G' w' a' r p' envv' st' hr hp' hbp' hv' hlk' hX' hI' hE'
      refine ih _ (bUp b i) (updR cur i r) p' envv' st' (by simp [hsz]) (fun k hk => ?_) (fun k hk hbk d hd => ?_) ?_ (fun k hk => ?_) (fun k hk hkb hbk => ?_) hp' hbp' hv' hlk' G' w' a' hX' hI' ⟨hE'.size, hE'.defers, fun t x h => hE'.at_ t x ?_⟩
      · unfold bUp
        by_cases hki : k = i
        · subst hki
          have hks : k < listed.size := by omega
          simp [Array.getD_eq_getD_getElem?, hks]
        · rw [if_neg hki, ← hlb k hk]
          simp [Array.getD_eq_getD_getElem?, Array.getElem?_setIfInBounds_ne (Ne.symm hki)]
      · unfold bUp at hbk ⊢
        by_cases hki : k = i
        · subst hki
          by_cases hdk : d = k
          · rw [if_pos hdk]
          · rw [if_neg hdk]; exact hdep d hd
        · rw [if_neg hki] at hbk
          by_cases hdk : d = i
          · rw [if_pos hdk]
          · rw [if_neg hdk]; exact hdc k hk hbk d hd
      · have : ((List.range ops.size).filter fun j => !bUp b i j).length < ((List.range ops.size).filter fun j => !b j).length := by
          refine filter_lt (List.mem_range.2 hin) (by rw [hbi]; rfl) (by unfold bUp; rw [if_pos rfl]; rfl) (fun j hj => ?_)
          unfold bUp at hj
          split at hj
          · cases hj
          · exact hj
        omega
      · unfold bUp at hk
        split at hk
        · cases hk
        · rename_i hki; unfold updR; rw [if_neg hki]; exact hc0 k hk
      · unfold updR
        by_cases hki : k = i
        · subst hki; rw [if_pos rfl, hr hkb]
        · rw [if_neg hki]
          unfold bUp at hbk
          rw [if_neg hki] at hbk
          exact hcr k hk hkb hbk
      · rw [← h]
        exact (envR_upd ho (hc0 i hbi) hdst hin t).symm
    unfold wpOp
    rw [ho]
    dsimp only
    cases hbe : Bs.elem i with
    | true =>
      obtain ⟨hg, hch⟩ := hB hbe
      have hip : p ≤ i := by
        have := hbp i hin hbe
        rw [hbi] at this
        have := of_decide_eq_false this.symm
        omega
      have hno : ∀ j, p ≤ j → j < i → Bs.elem j = false := fun j h1 h2 => by
        cases hj : Bs.elem j with
        | false => rfl
        | true =>
          have h3 := hM j (hch j hj h2)
          rw [hbp j (by omega) hj] at h3
          have := of_decide_eq_true h3
          omega
      have h1 := vdB_skip (ops := ops) (i - p) (fun j h1 h2 => hno j h1 (by omega)) (by omega) hv
      rw [show p + (i - p) = i by omega] at h1
      have hlt : i < ops.toList.length := by rw [Array.length_toList]; exact hin
      have hoi : ops.toList[i] = o := by
        have : ops.toList[i]? = some o := by simpa using ho
        rw [List.getElem?_eq_getElem hlt] at this
        exact Option.some.inj this
      rw [List.drop_eq_getElem_cons hlt, hoi] at h1
      unfold vdB at h1
      rw [hbe] at h1
      dsimp only at h1
      have same : ∀ t ∈ o.looksAt ops, look envv t = look (envR N ops env0 cur ops.size) t := fun t ht => by
        rw [hlk]
        refine look_envR ops.size (fun j hj hjd => ?_)
        have hjb := hM j (hlook t ht j hjd)
        cases hjB : Bs.elem j with
        | true => simp
        | false => simp only [Bool.false_eq_true, if_false]; exact (hcr j hj hjB hjb).symm
      have sameEv : ∀ x ∈ o.op.operands, ev envv x = ev (envR N ops env0 cur ops.size) x := fun x hx => by
        cases x with
        | tmp t => exact same t (looks_op hx)
        | _ => rfl
      have h2 := vop_congr sameEv h1
      have hw : Region.wanted o (yielded ops a.tmps) = true := by simp [Region.wanted, hg]
      rw [if_pos hw]
      left
      have hop := vop_ok TP (N := N) (o := o) (K := fun env' s => ∃ r, env' = put N (envR N ops env0 cur ops.size) o.dst r ∧ vdB P T N Bs (i + 1) (ops.toList.drop (i + 1)) (put N envv o.dst r) s Q) (vop_mono (fun r s h => ⟨r, rfl, h⟩) h2)
      refine Oper.wp_mono ?_ (hop G w a hI hE Q')
      rintro a' w' ⟨G', env', st', ⟨r, rfl, hvr⟩, q2, q3, q4⟩
      refine next G' w' a' r (i + 1) (put N envv o.dst r) st' (fun h => by rw [hbe] at h; cases h) (by omega) (fun k hk hkb => ?_) hvr (fun t => ?_) (hX.trans q2) q3 q4
      · unfold bUp
        by_cases hki : k = i
        · subst hki; rw [if_pos rfl]; symm; exact decide_eq_true (by omega)
        · rw [if_neg hki, hbp k hk hkb]
          by_cases hkp : k < p
          · rw [decide_eq_true hkp, decide_eq_true (show k < i + 1 by omega)]
          · rw [decide_eq_false hkp]
            symm
            refine decide_eq_false (fun hki2 => ?_)
            have := hno k (by omega) (by omega)
            rw [hkb] at this
            cases this
      · have e : (fun k => if Bs.elem k = true then updR cur i r k else rs k) = updR (fun k => if Bs.elem k = true then cur k else rs k) i r := by
          funext k
          unfold updR
          by_cases hki : k = i
          · subst hki; rw [if_pos rfl, hbe]; simp
          · rw [if_neg hki, if_neg hki]
        rw [e, envR_upd ho (by rw [hbe]; simp; exact hc0 i hbi) hdst hin t]
        exact look_put_congr (hlk t)
    | false =>
      obtain ⟨o', r, ho', hri, hfact⟩ := hf i hin hbe
      rw [ho] at ho'
      cases ho'
      have hnoB := hA hbe
      have same : ∀ t ∈ o.looksAt ops, look (envR N ops env0 rs i) t = look (envR N ops env0 cur ops.size) t := fun t ht => by
        have e1 : look (envR N ops env0 cur ops.size) t = look (envR N ops env0 rs ops.size) t := look_envR ops.size (fun j hj hjd => by
          have hjM := hlook t ht j hjd
          exact hcr j hj (hnoB j hjM) (hM j hjM))
        have e2 : look (envR N ops env0 rs ops.size) t = look (envR N ops env0 rs i) t := by
          have e3 : look (envR N ops env0 rs ops.size) t = look (envR N ops env0 (fun k => if k < i then rs k else none) ops.size) t := look_envR ops.size (fun j hj hjd => by
            have := ((ancOk_lt hanc hin).2 j (hlook t ht j hjd)).1
            simp [this])
          rw [e3, envR_le (k := i) (by omega) (fun j h2 _ _ => by simp; omega)]
          exact congrArg (look · t) (envR_congr i (fun j hj => by simp [hj]))
        rw [e1, e2]
      have sameEv : ∀ x ∈ o.op.operands, ev (envR N ops env0 rs i) x = ev (envR N ops env0 cur ops.size) x := fun x hx => by
        cases x with
        | tmp t => exact same t (looks_op hx)
        | _ => rfl
      have bSame : ∀ k, k < ops.size → Bs.elem k = true → bUp b i k = decide (k < p) := fun k hk hkb => by
        unfold bUp
        rw [if_neg (fun e => by subst e; rw [hbe] at hkb; cases hkb)]
        exact hbp k hk hkb
      have lkSame : ∀ t, look envv t = look (envR N ops env0 (fun k => if Bs.elem k = true then updR cur i r k else rs k) ops.size) t := fun t => by
        rw [hlk]
        refine look_envR ops.size (fun j hj _ => ?_)
        by_cases hji : j = i
        · subst hji; rw [hbe]; simp
        · unfold updR; rw [if_neg hji]
      rcases hfact with ⟨j, want, d, r', hg, hd, hl, hne, rfl⟩ | ⟨hg, hrun⟩
      · rw [same d (looks_guard hg hd)] at hl
        obtain ⟨v, h3, h4⟩ := hE.at_ _ _ hl
        have hw : ¬ (Region.wanted o (yielded ops a.tmps) = true) := by
          rcases hne with ⟨b1, rfl, hne⟩ | ⟨l, rfl⟩
          · have hv : v = .bool b1 := by have := h4.cel; cases this; rfl
            subst hv
            have hy : yielded ops a.tmps j = some b1 := by simp [yielded, hd, h3]
            simp [Region.wanted, hg, hy, hne]
          · have hv : ∃ vs, v = .tuple vs := by cases h4; exact ⟨_, rfl⟩
            obtain ⟨vs, rfl⟩ := hv
            have hy : yielded ops a.tmps j = none := by simp [yielded, hd, h3]
            simp [Region.wanted, hg, hy]
        rw [if_neg hw]
        exact next G w _ (.t []) p envv st (fun _ => hri) hp bSame hv lkSame hX hI (hE.put (.t [] _ rfl (fun j x v h _ => by simp at h)) _)
      · have hw : Region.wanted o (yielded ops a.tmps) = true := by
          rcases hg with hg | ⟨j, want, d, hg, hd, hl⟩
          · simp [Region.wanted, hg]
          · rw [same d (looks_guard hg hd)] at hl
            obtain ⟨v, h3, h4⟩ := hE.at_ _ _ hl
            have hv : v = .bool want := by have := h4.cel; cases this; rfl
            subst hv
            have hy : yielded ops a.tmps j = some want := by simp [yielded, hd, h3]
            simp [Region.wanted, hg, hy]
        rw [if_pos hw]
        left
        have h2 := vop_congr sameEv (hrun st)
        have hop := vop_ok TP (N := N) (o := o) (K := fun env' s => env' = put N (envR N ops env0 cur ops.size) o.dst r ∧ s = st) (vop_mono (fun r s h => ⟨by rw [h.1], h.2⟩) h2)
        refine Oper.wp_mono ?_ (hop G w a hI hE Q')
        rintro a' w' ⟨G', env', st', ⟨rfl, rfl⟩, q2, q3, q4⟩
        exact next G' w' a' r p envv _ (fun _ => hri) hp bSame hv lkSame (hX.trans q2) q3 q4
/-- a region that draws its order, with a chain of changes -/
theorem Pw.drwC (TP : TOk P T) (hm : P.follows .mixedOrders = true) (Bs : List Nat) {id : Nat} (hok : drawOkC ops (mkA ops ops.size) Bs = true) {Q : Exit → Env → Sto → Prop} {env : Env} {st : Sto}
    (h : vdA P T N ops Bs 0 ops.toList env fun env => vdB P T N Bs 0 ops.toList env st (Q .normal)) : Pw P N (.region id ops true) Q env st := ⟨fun G w a hI hE => by
  refine wp_region_any hm ?_
  have hI' : Inv G { w with drawn := w.drawn + 1 } st := Inv.heap (w := w) (w' := { w with drawn := w.drawn + 1 }) rfl hI
  have hX0 : Ext G w G { w with drawn := w.drawn + 1 } := Ext.heap (w := w) (w1 := w) (w' := { w with drawn := w.drawn + 1 }) rfl ⟨rfl, rfl, rfl⟩ (Ext.refl G w)
  have hE' := hE.ext hX0
  have hnone : ∀ k, envR N ops env (fun _ => none) k = env := by
    intro k
    induction k with
    | zero => rfl
    | succ k ih =>
      unfold envR
      rw [ih]
      cases ops[k]? <;> rfl
  obtain ⟨rs, h1, h2, h3⟩ := planA (P := P) (T := T) (N := N) (ops := ops) (Bs := Bs) (env0 := env) ops.toList 0 (fun _ => none) rfl (Nat.zero_le _) (fun _ _ => rfl) (fun k hk => absurd hk (Nat.not_lt_zero k)) (fun _ _ => rfl) h
  exact drawC_any TP hok h1 h2 (Q := Q .normal) (Q' := fun e a' w' => ∃ G' env' st', Q e env' st' ∧ Ext G w G' w' ∧ Inv G' w' st' ∧ RE N G' w' env' a') (G0 := G) (w0 := w)
    (fun G' w' a' env' st' hx hi he hq => ⟨G', env', st', hq, hx, hi, he⟩)
    ops.size (Array.replicate ops.size false) (fun _ => false) (fun _ => none) 0 (envR N ops env rs ops.size) st (by simp) (fun i hi => by simp [Array.getD_eq_getD_getElem?, hi]) (fun i hi h => by cases h) (Nat.le_trans (List.length_filter_le _ _) (by simp))
    (fun _ _ => rfl) (fun k _ _ h => by cases h) (Nat.zero_le _) (fun k _ _ => by simp) h3 (fun t => look_envR ops.size (fun j hj _ => by
      cases hjB : Bs.elem j with
      | true => rw [h2 j hjB]; simp
      | false => simp))
    G { w with drawn := w.drawn + 1 } a hX0 hI' (by rw [hnone]; exact hE')⟩
/-- arguments are seen otherwise, once the objects of D no longer change -/
theorem Does.argsD {f : FuncId} {as as' : List AV} {st st' : Sto} {K : AV → Sto → Prop} (D : Nat → Bool) (hs : ∀ id o, st' id = some o → st id = some o ∧ D id = false) (hl : as'.length = as.length) (hv : ∀ (j : Nat) r r', as[j]? = some r → as'[j]? = some r' → FV D st r r') (h : Does P f as' st' K) : Does P f as st K := by
  refine ⟨h.fn, fun G w vs hI hr => ?_⟩
  have h2 := h.out (G.frz D st w) w vs (hI.frz D hs) ⟨by rw [hr.1, hl], fun j r' v h1 h2 => ?_⟩
  · exact h2.mono fun e w' ⟨G', r, s, v, k1, k2, k3, k4⟩ => ⟨G', r, s, v, k1, k2, (Ext.frz G D st w).trans k3, k4⟩
  · have hlt : j < as.length := by rw [← hl]; exact (List.getElem?_eq_some_iff.1 h1).1
    exact (hv j _ r' (List.getElem?_eq_getElem hlt) h1).ok hI (hr.2 j _ v (List.getElem?_eq_getElem hlt) h2)
theorem FV.gl {D : Nat → Bool} {st : Sto} {xs ys : List AC} (h : F2 (Fz D st) xs ys) : FV D st (.g xs) (.g ys) := by
  refine .g xs ys ?_ ?_
  · induction h with
    | nil => rfl
    | cons _ _ ih => simp [ih]
  · intro j c c' h1 h2
    induction h generalizing j with
    | nil => simp at h1
    | cons h t ih =>
      cases j with
      | zero => cases h1; cases h2; exact h
      | succ j => exact ih j h1 h2
theorem F2.same {D : Nat → Bool} {st : Sto} : ∀ (l : List AC), F2 (Fz D st) l l
  | [] => .nil
  | c :: l => .cons (.refl c) (F2.same l)
theorem Fz.arr0 {D : Nat → Bool} {st : Sto} {id sz : Nat} {rows : List (List AC)} (hd : D id = true) (hs : st id = some (.ar sz rows)) (hr : ∀ r ∈ rows, r.length = sz) : Fz D st (.arr id 0 rows.length) (.sl sz rows) :=
  Fz.arr id 0 rows.length sz rows rows hd hs (by omega) rfl (fun i r hi => hr r (List.mem_of_getElem? hi)) (fun i r r' j c c' q1 q2 q3 q4 => by
    rw [Nat.zero_add] at q1
    rw [q1] at q2
    cases q2
    rw [q3] at q4
    cases q4
    exact .refl _)
/-- a list that grew is settled -/
theorem Pw.frzG {st0 st : Sto} {sz : Nat} {a : AC} {rows : List (List AC)} {env : Env} {c : Code} {Q : Exit → Env → Sto → Prop} (t : Nat) (keep : List Nat) (hg : Grow st0 sz st a rows) (hr : ∀ r ∈ rows, r.length = sz) (hl : look env t = some (.c a))
    (h : Pw P N c Q ((t, .c (.sl sz rows)) :: sub env keep) st0) : Pw P N c Q env st := by
  obtain ⟨D, h1, h2⟩ := hg.fv hr
  refine Pw.vw (env' := (t, .c (.sl sz rows)) :: sub env keep) (st' := st0) ⟨D, ⟨⟨_, hl, .c _ _ (h1 D fun _ h => h)⟩, ?_⟩, fun i o hi => ⟨hg.1 i o hi, ?_⟩⟩ h
  · have key : ∀ l : Env, EVe env l → EV D st env l := by
      intro l
      induction l with
      | nil => intro _; trivial
      | cons p l ih => intro h; exact ⟨⟨p.2, h.1, .refl _⟩, ih h.2⟩
    exact key _ (EVe.sub keep)
  · cases hd : D i with
    | false => rfl
    | true => rw [h2 i hd] at hi; cases hi
theorem Fin.growR {st0 st : Sto} {sz : Nat} {r : AV} {b : AC} {rows : List (List AC)} {Q : AV → Sto → Prop} (hg : Grow st0 sz st b rows) (hr : ∀ r ∈ rows, r.length = sz) (k : Q (.t [r, .c (.sl sz rows)]) st0) : Fin Q (.t [r, .c b]) st := by
  obtain ⟨D, h1, h2⟩ := hg.fv hr
  refine ⟨D, st0, _, .t _ _ (by simp) (fun j c c' q1 q2 => ?_), fun i o hi => ⟨hg.1 i o hi, ?_⟩, k⟩
  · match j, q1, q2 with
    | 0, q1, q2 => cases q1; cases q2; exact .refl _
    | 1, q1, q2 => cases q1; cases q2; exact .c _ _ (h1 _ fun i h => h)
    | j + 2, q1, q2 => simp at q1
  · cases hd : D i with
    | true => rw [h2 i hd] at hi; cases hi
    | false => rfl
theorem Fin.growL {st0 st : Sto} {sz : Nat} {r : AV} {b : AC} {rows : List (List AC)} {Q : AV → Sto → Prop} (hg : Grow st0 sz st b rows) (hr : ∀ r ∈ rows, r.length = sz) (k : Q (.t [.c (.sl sz rows), r]) st0) : Fin Q (.t [.c b, r]) st := by
  obtain ⟨D, h1, h2⟩ := hg.fv hr
  refine ⟨D, st0, _, .t _ _ (by simp) (fun j c c' q1 q2 => ?_), fun i o hi => ⟨hg.1 i o hi, ?_⟩, k⟩
  · match j, q1, q2 with
    | 0, q1, q2 => cases q1; cases q2; exact .c _ _ (h1 _ fun i h => h)
    | 1, q1, q2 => cases q1; cases q2; exact .refl _
    | j + 2, q1, q2 => simp at q1
  · cases hd : D i with
    | true => rw [h2 i hd] at hi; cases hi
    | false => rfl
end Go.Proofs.Ytbmgenifdlgbmaa.D.Pm
namespace Go.Proofs.Ytbmgenifdlgbmaa.D.Pm
set_option linter.unusedVariables false
set_option linter.unusedSimpArgs false
open Go
/-- all that was there before is settled -/
def top (w : World) : Gh := ⟨fun _ => False, fun _ => False, fun _ => none, fun k => k < w.heap.size⟩
theorem top_inv (w : World) : Inv (top w) w (fun _ => none) :=
  ⟨fun id o h => (by cases h), fun id g sz h => (by cases h), fun id id' g sz sz' h => (by cases h), fun k h => h, 0, fun id h => (by rcases h with h | h <;> exact h.elim)⟩
theorem Ext.below {w w' : World} {G : Gh} (h : Ext (top w) w G w') : RowKit.Below w.heap.size w w' :=
  ⟨h.out.1, h.out.2.1, h.out.2.2, h.size, fun k hk => h.kept k hk⟩
/-- what reads as a thing of the kind f, and is as ok says -/
def Rd (P : Program) (t : TypeId) {α : Type} (f : α → List AC) (ok : α → Prop) (m : Nat) : Prop :=
  ∀ (H : Type) (enc : TypeId × Value → H) (w : World) (base : Nat) (spare : Nat → Bool) (held : Bool) (fuel : Nat) (cs : List Value) (x : DataW H × List MemPlace),
    fuel ≤ m → DataW.trod enc P w base spare held fuel t cs = some x → ∃ a, ok a ∧ Rel2 (top w) w (f a) cs
theorem rel1 {G : Gh} {w : World} {c : AC} {v : Value} (h : RC G w c v) : Rel2 G w [c] [v] := ⟨rfl, fun j c' v' h1 h2 => by
  match j, h1, h2 with
  | 0, h1, h2 => cases h1; cases h2; exact h
  | j + 1, h1, h2 => simp at h1⟩
theorem Rel2.app {G : Gh} {w : World} {cs ds : List AC} {us vs : List Value} (h : Rel2 G w cs us) (h' : Rel2 G w ds vs) : Rel2 G w (cs ++ ds) (us ++ vs) := by
  refine ⟨by rw [List.length_append, List.length_append, h.1, h'.1], fun j c v h1 h2 => ?_⟩
  have := h.1
  by_cases hj : j < cs.length
  · rw [List.getElem?_append_left hj] at h1
    rw [List.getElem?_append_left (by omega)] at h2
    exact h.2 j c v h1 h2
  · rw [List.getElem?_append_right (by omega)] at h1
    rw [List.getElem?_append_right (by omega)] at h2
    rw [this] at h2
    exact h'.2 _ c v h1 h2
section
variable {P : Program} {t : TypeId} {m : Nat}
theorem Rd.zero {α : Type} {f : α → List AC} {ok : α → Prop} : Rd P t f ok 0 := fun H enc w base spare held fuel cs x hm hx => by
  obtain rfl : fuel = 0 := by omega
  simp [DataW.trod] at hx
theorem Rd.mono {α : Type} {f : α → List AC} {ok ok' : α → Prop} (h : Rd P t f ok m) (i : ∀ a, ok a → ok' a) : Rd P t f ok' m := fun H enc w base spare held fuel cs x hm hx => by
  obtain ⟨a, h1, h2⟩ := h H enc w base spare held fuel cs x hm hx
  exact ⟨a, i a h1, h2⟩
theorem Rd.less {α : Type} {f : α → List AC} {ok : α → Prop} (h : Rd P t f ok (m + 1)) : Rd P t f ok m := fun H enc w base spare held fuel cs x hm hx => h H enc w base spare held fuel cs x (by omega) hx
theorem Rd.int {k : IntKind} (ht : P.underlying t = some (.int k)) : Rd P t (fun n => [.v (.int k n)]) (fun n => (Lit.int k n).wf = true) m := fun H enc w base spare held fuel cs x _ hx => by
  obtain ⟨n, rfl, _, hw⟩ := DataW.trod_int ht hx
  exact ⟨n, hw, rel1 (.v _ rfl)⟩
theorem Rd.str (ht : P.underlying t = some .string) : Rd P t (fun s => [.v (.string s)]) (fun s => s.size ≤ maxLen) m := fun H enc w base spare held fuel cs x _ hx => by
  obtain ⟨s, rfl, _, hw⟩ := DataW.trod_string ht hx
  exact ⟨s, hw, rel1 (.v _ rfl)⟩
theorem trod_bool {H : Type} {enc : TypeId × Value → H} {w : World} {base : Nat} {spare : Nat → Bool} {held : Bool} {fuel : Nat} {cs : List Value} {x : DataW H × List MemPlace}
    (ht : P.underlying t = some .bool) (h : DataW.trod enc P w base spare held fuel t cs = some x) : ∃ b, cs = [.bool b] := by
  cases fuel with
  | zero => simp [DataW.trod] at h
  | succ n =>
    unfold DataW.trod at h
    rw [ht] at h
    split at h <;> simp_all
theorem Rd.bool (ht : P.underlying t = some .bool) : Rd P t (fun b => [.v (.bool b)]) (fun _ => True) m := fun H enc w base spare held fuel cs x _ hx => by
  obtain ⟨s, rfl⟩ := trod_bool ht hx
  exact ⟨s, trivial, rel1 (.v _ rfl)⟩
theorem cells_some {w : World} {base : Nat} {a : Addr} {n : Nat} {cs : List Value} (h : w.cells? base a n = some cs) : cs.length = n ∧ ∀ i u, cs[i]? = some u → w.cell? (a.add i) = some u := by
  unfold World.cells? at h
  split at h
  · have hl : cs.length = n := by simpa using mapM_some_length h
    refine ⟨hl, fun i u hi => ?_⟩
    have hlt : i < n := by
      have := (List.getElem?_eq_some_iff.1 hi).1
      omega
    have := mapM_some_get h i i (by simp [hlt])
    rw [hi] at this
    exact this
  · simp_all
theorem list_of {β α : Type} {Q : Nat → β → α → Prop} : ∀ (es : List β), (∀ i y, es[i]? = some y → ∃ a, Q i y a) → ∃ xs : List α, xs.length = es.length ∧ ∀ (i : Nat) (a : α), xs[i]? = some a → ∃ y, es[i]? = some y ∧ Q i y a := by
  intro es h
  have hx : ∀ i : _root_.Fin es.length, ∃ a, Q i.1 (es[i.1]'i.2) a := fun i => h i.1 _ (List.getElem?_eq_getElem i.2)
  let g : _root_.Fin es.length → α := fun i => Classical.choose (hx i)
  have hg : ∀ i : _root_.Fin es.length, Q i.1 (es[i.1]'i.2) (g i) := fun i => Classical.choose_spec (hx i)
  refine ⟨List.ofFn g, by simp, fun i a hi => ?_⟩
  rw [List.getElem?_ofFn] at hi
  split at hi
  · rename_i hlt
    cases hi
    exact ⟨_, List.getElem?_eq_getElem hlt, hg ⟨i, hlt⟩⟩
  · cases hi
theorem cell_adr {w : World} {a : Addr} {v : Value} (h : w.cell? a = some v) : a = adr a.block a.off ∧ a.block < w.heap.size := by
  obtain ⟨g, o, sp⟩ := a
  unfold World.cell? at h
  dsimp only at h
  cases hg : w.heap[g]? with
  | none => rw [hg] at h; cases h
  | some x =>
    refine ⟨?_, (Array.getElem?_eq_some_iff.1 hg).1⟩
    rw [hg] at h
    cases sp with
    | none => rfl
    | some s => cases x <;> simp at h
theorem Rd.sl {e : TypeId} {sz : Nat} (hsz : 0 < sz) (ht : P.underlying t = some (.slice e)) (hc : P.cellsOf e = sz) {α : Type} {f : α → List AC} {ok : α → Prop} (h : Rd P e f ok m) :
    Rd P t (fun xs : List α => [.sl sz (xs.map f)]) (fun xs => xs.length ≤ maxLen ∧ ∀ x ∈ xs, ok x) m := fun H enc w base spare held fuel cs x hfm hx => by
  rcases DataW.trod_slice ht hx with ⟨rfl, _⟩ | ⟨a, len, cap, elems, rest, n, hfn, rfl, _, _, hl, hm, he, hel, _, _⟩
  · exact ⟨[], ⟨Nat.zero_le _, fun x hx => by cases hx⟩, rel1 (.sl sz [] none 0 0 (fun _ _ => undef) rfl (Nat.le_refl _) (Nat.zero_le _) (fun i cs h => by simp at h) 0 0 (fun h => absurd h (Nat.lt_irrefl _)) (fun i cs j c h => by simp at h) (fun i cs j c h => by simp at h))⟩
  · obtain ⟨xs, hxl, hxs⟩ := list_of (Q := fun i y a2 => ok a2 ∧ ∃ c : List Value, c.length = sz ∧ Rel2 (top w) w (f a2) c ∧ ∀ j u, c[j]? = some u → w.cell? (a.add (i * sz + j)) = some u) elems (by
        intro i y hi
        have hlt : i < len := by
          have := (List.getElem?_eq_some_iff.1 hi).1
          omega
        have hb := hel i hlt
        rw [hi] at hb
        obtain ⟨c, hc1, hc2⟩ := Option.bind_eq_some_iff.1 hb
        obtain ⟨hcl, hcell⟩ := cells_some hc1
        obtain ⟨a2, ho, hk⟩ := h H enc w base spare held n c y (by omega) hc2
        rw [hc] at hcl hcell
        refine ⟨a2, ho, c, hcl, hk, fun j u hj => ?_⟩
        have := hcell j u hj
        rwa [Addr.add_add] at this)
    have hxn : xs.length = len := by omega
    have hrow : ∀ (i : Nat) r, (xs.map f)[i]? = some r → ∃ a2 c, xs[i]? = some a2 ∧ r = f a2 ∧ c.length = sz ∧ r.length = sz ∧ Rel2 (top w) w r c ∧ ∀ j u, c[j]? = some u → w.cell? (a.add (i * sz + j)) = some u := fun i r hi => by
      rw [List.getElem?_map] at hi
      obtain ⟨a2, ha, rfl⟩ := Option.map_eq_some_iff.1 hi
      obtain ⟨y, _, _, c, h1, h2, h3⟩ := hxs i a2 ha
      exact ⟨a2, c, ha, rfl, h1, by rw [← h2.1, h1], h2, h3⟩
    have hadr : 0 < len → a = adr a.block a.off ∧ a.block < w.heap.size := fun hp => by
      have hlt : 0 < (xs.map f).length := by rw [List.length_map]; omega
      obtain ⟨a2, c, _, _, h1, _, _, h3⟩ := hrow 0 _ (List.getElem?_eq_getElem hlt)
      have h5 := h3 0 c[0] (List.getElem?_eq_getElem (by omega))
      rw [show (0 * sz + 0 : Nat) = 0 by omega] at h5
      have e0 : a.add 0 = a := by unfold Addr.add; simp
      rw [e0] at h5
      exact cell_adr h5
    refine ⟨xs, ⟨by omega, fun p hp => ?_⟩, rel1 (.sl sz (xs.map f) (some a) len cap (fun i j => (w.cell? (a.add (i * sz + j))).getD undef) (by rw [List.length_map, hxn]) hl hm (fun i r hi => (hrow i r hi).choose_spec.choose_spec.2.2.2.1) a.block a.off (fun hp => ⟨congrArg some (hadr hp).1, (hadr hp).2⟩) (fun i r j c hi hj => ?_) (fun i r j c hi hj => ?_))⟩
    · obtain ⟨j, hj, rfl⟩ := List.mem_iff_getElem.1 hp
      obtain ⟨y, hy, ho, _⟩ := hxs j _ (List.getElem?_eq_getElem hj)
      exact ho
    · obtain ⟨a2, cv, h0, _, h1, h2, h3, h4⟩ := hrow i r hi
      have hlt : j < cv.length := by have := (List.getElem?_eq_some_iff.1 hj).1; omega
      have hp : 0 < len := by have := (List.getElem?_eq_some_iff.1 h0).1; omega
      have hu := h4 j cv[j] (List.getElem?_eq_getElem hlt)
      have ea := (hadr hp).1
      rw [hu]
      rw [ea, adr_add] at hu
      exact hu
    · obtain ⟨a2, cv, h0, _, h1, h2, h3, h4⟩ := hrow i r hi
      have hlt : j < cv.length := by have := (List.getElem?_eq_some_iff.1 hj).1; omega
      have hu := h4 j cv[j] (List.getElem?_eq_getElem hlt)
      rw [hu]
      exact h3.2 j c _ hj (List.getElem?_eq_getElem hlt)
/-- the fields of a struct, one behind the other, from a place on -/
def RdF (P : Program) (off sz : Nat) (fs : List Field) {α : Type} (f : α → List AC) (ok : α → Prop) (m : Nat) : Prop :=
  ∀ (H : Type) (enc : TypeId × Value → H) (w : World) (base : Nat) (spare : Nat → Bool) (held : Bool) (n : Nat) (cs : List Value),
    n ≤ m → cs.length = off + sz → (∀ (i : Nat) (g : Field), fs[i]? = some g → ∃ x, DataW.trod enc P w base spare held n g.type ((cs.drop g.offset).take (P.cellsOf g.type)) = some x) →
    ∃ a, ok a ∧ Rel2 (top w) w (f a) (cs.drop off)
theorem RdF.last {off sz : Nat} {g : Field} {α : Type} {f : α → List AC} {ok : α → Prop} (ho : g.offset = off) (hc : P.cellsOf g.type = sz) (h : Rd P g.type f ok m) : RdF P off sz [g] f ok m :=
  fun H enc w base spare held n cs hm hl hf => by
    obtain ⟨x, hx⟩ := hf 0 g rfl
    rw [ho, hc, List.take_of_length_le (by rw [List.length_drop]; omega)] at hx
    exact h H enc w base spare held n _ x hm hx
theorem RdF.cons {off s1 s2 : Nat} {g : Field} {fs : List Field} {α β : Type} {f : α → List AC} {f2 : β → List AC} {ok : α → Prop} {ok2 : β → Prop} (ho : g.offset = off) (hc : P.cellsOf g.type = s1) (h : Rd P g.type f ok m) (r : RdF P (off + s1) s2 fs f2 ok2 m) :
    RdF P off (s1 + s2) (g :: fs) (fun x : α × β => f x.1 ++ f2 x.2) (fun x => ok x.1 ∧ ok2 x.2) m :=
  fun H enc w base spare held n cs hm hl hf => by
    obtain ⟨x, hx⟩ := hf 0 g rfl
    rw [ho, hc] at hx
    obtain ⟨a, ha, hk⟩ := h H enc w base spare held n _ x hm hx
    obtain ⟨b, hb, hk2⟩ := r H enc w base spare held n cs hm (by omega) (fun i g hg => hf (i + 1) g (by simpa using hg))
    refine ⟨(a, b), ⟨ha, hb⟩, ?_⟩
    have := hk.app hk2
    rwa [← List.drop_drop, List.take_append_drop] at this
theorem Rd.st {fs : Array Field} {sz : Nat} {α β : Type} {f : α → List AC} {ok : α → Prop} {f' : β → List AC} {ok' : β → Prop} (u : α → β) (hu : ∀ a, f' (u a) = f a ∧ (ok a → ok' (u a))) (ht : P.underlying t = some (.struct fs)) (hc : P.cellsOf t = sz) (h : RdF P 0 sz fs.toList f ok m) :
    Rd P t f' ok' (m + 1) := fun H enc w base spare held fuel cs x hm hx => by
  obtain ⟨xs, n, hfn, _, hl, hn, hall⟩ := DataW.trod_struct ht hx
  obtain ⟨a, ho, hk⟩ := h H enc w base spare held n cs (by omega) (by omega) (fun i f hf => by
    have hf' : fs[i]? = some f := by simpa using hf
    have hi : i < xs.length := by
      have := (Array.getElem?_eq_some_iff.1 hf').1
      omega
    exact ⟨_, (hall i f hf').trans (List.getElem?_eq_getElem hi)⟩)
  refine ⟨u a, (hu a).2 ho, ?_⟩
  rw [(hu a).1]
  simpa using hk
end
/-- an argument that came in: of one cell; of many -/
theorem Rd.arg1 {P : Program} {t : TypeId} {α : Type} {c : α → AC} {ok : α → Prop} (h : ∀ m, Rd P t (fun a => [c a]) ok m) {H : Type} {enc : TypeId × Value → H} {w : World} {base : Nat} {spare : Nat → Bool} {held : Bool} {v : Value} {d : DataW H} {p : List MemPlace}
    (hv : v.cells = #[v]) (hT : DataW.Trod enc P w base spare held t v d p) : ∃ a, ok a ∧ RV (top w) w (.c (c a)) v := by
  obtain ⟨m, hm⟩ := hT
  obtain ⟨a, h1, h2⟩ := h m H enc w base spare held m _ _ (Nat.le_refl _) hm
  rw [hv] at h2
  exact ⟨a, h1, .c _ _ (h2.2 0 _ v rfl rfl)⟩
theorem Rd.argG {P : Program} {t : TypeId} {α : Type} {f : α → List AC} {ok : α → Prop} (h : ∀ m, Rd P t f ok m) {H : Type} {enc : TypeId × Value → H} {w : World} {base : Nat} {spare : Nat → Bool} {held : Bool} {vs : Array Value} {d : DataW H} {p : List MemPlace}
    (hT : DataW.Trod enc P w base spare held t (.agg vs) d p) : ∃ a, ok a ∧ RV (top w) w (.g (f a)) (.agg vs) := by
  obtain ⟨m, hm⟩ := hT
  obtain ⟨a, h1, h2⟩ := h m H enc w base spare held m _ _ (Nat.le_refl _) hm
  exact ⟨a, h1, .g _ _ (by have := h2.1; simpa [Value.cells] using this) (fun j c x a b => h2.2 j c x a (by simpa [Value.cells] using b))⟩
end Go.Proofs.Ytbmgenifdlgbmaa.D.Pm

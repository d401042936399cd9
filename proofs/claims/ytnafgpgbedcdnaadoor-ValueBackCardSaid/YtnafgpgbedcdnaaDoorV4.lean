/- Words and contracts: a plain machine over the model, and what the functions that a law reaches come to, each for every input that its theorem names. -/
import Derived.Test.YtnafgpgbedcdnaaDoorV3
import Derived.Lib.Builder
import Derived.Lib.UnsafeStr
import Derived.Laws.Externs
import Derived.Test.YtnafgpgbedcdnaaDoorV2
namespace Go.Proofs.YtnafgpgbedcdnaaDoor.D.Pm
set_option linter.unusedVariables false
set_option linter.unusedSimpArgs false
open Go
/-! ### a builder of texts: an object whose block's type is known -/
/-- a pointer to an object's block, of which the type and the number of cells are known -/
def tpA (id : Nat) (T : TypeId) (n : Nat) : Abs where
  F := fun G w v => G.U id ∧ ∃ A, v = .pointer (some A) ∧ ∀ g sz, G.b id = some (g, sz) → A = adr g 0 ∧ ∃ cs, w.heap[g]? = some (.cells cs T (0, 0)) ∧ cs.size = n
  one := fun ⟨_, _, e, _⟩ => by subst e; rfl
  stp := fun x ⟨hU, A, e, h⟩ => ⟨x.U _ hU, A, e, fun g sz hb => by
    rcases x.live _ hU with h1 | h1
    · rw [h1] at hb; cases hb
    · obtain ⟨h2, cs, h3, h4⟩ := h g sz (h1 ▸ hb)
      obtain ⟨cs', h5, h6⟩ := x.shape _ g sz hU hb cs T h3
      exact ⟨h2, cs', h5, h6.trans h4⟩⟩
/-- a list of an array whose type is known -/
def taA (id n : Nat) (e : TypeId) : Abs where
  F := fun G w v => G.U id ∧ ∃ A cap, v = .slice A n cap ∧ n ≤ cap ∧ cap ≤ maxLen ∧ ∀ g sz, G.b id = some (g, sz) → ∃ cs, w.heap[g]? = some (.cells cs e (0, 0)) ∧ (cap = 0 ∨ A = some (adr g 0)) ∧ cap * sz ≤ cs.size
  one := fun ⟨_, _, _, e, _⟩ => by subst e; rfl
  stp := fun x ⟨hU, A, cap, ev, h1, h2, h⟩ => ⟨x.U _ hU, A, cap, ev, h1, h2, fun g sz hb => by
    rcases x.live _ hU with h0 | h0
    · rw [h0] at hb; cases hb
    · obtain ⟨cs, h3, h4, h5⟩ := h g sz (h0 ▸ hb)
      obtain ⟨cs', h6, h7⟩ := x.shape _ g sz hU hb cs e h3
      exact ⟨cs', h6, h4, h7 ▸ h5⟩⟩
theorem RC.tp {G : Gh} {w : World} {id n : Nat} {T : TypeId} {v : Value} (h : RC G w (.ab (tpA id T n)) v) : RC G w (.ptr id 0) v := by
  cases h with | ab _ _ h => obtain ⟨hU, A, rfl, h⟩ := h; exact .ptr id 0 A hU fun g sz hb => (h g sz hb).1
theorem RC.ta {G : Gh} {w : World} {id n : Nat} {e : TypeId} {v : Value} (h : RC G w (.ab (taA id n e)) v) : RC G w (.arr id 0 n) v := by
  cases h with | ab _ _ h =>
    obtain ⟨hU, A, cap, rfl, h1, h2, h⟩ := h
    exact .arr id 0 n A cap hU h1 h2 fun g sz hb => by obtain ⟨cs, h3, h4, h5⟩ := h g sz hb; exact ⟨cs, e, h3, by rw [Nat.zero_mul]; exact h4, by rw [Nat.zero_add]; exact h5⟩
section
variable {P : Program} {T : TT} {N : Nat} {ρ : Option Nat} {Q : Exit → Env → Sto → Prop} {env : Env} {st : Sto}
/-- a slot is seen otherwise -/
theorem Pw.see {c : Code} (t : Nat) {r r' : AV} (h : look env t = some r) (hv : ∀ G w v, RV G w r v → RV G w r' v) (k : Pw (ρ := ρ) P N c Q ((t, r') :: env) st) : Pw (ρ := ρ) P N c Q env st :=
  ⟨fun G w a hI hE => k.out G w a hI ⟨hE.size, hE.defers, fun t' x hl => by
    unfold look at hl
    split at hl
    · rename_i e
      subst e
      cases hl
      obtain ⟨v, h1, h2⟩ := hE.at_ _ _ h
      exact ⟨v, h1, hv _ _ _ h2⟩
    · exact hE.at_ _ _ hl⟩⟩
/-! ### regions with operations of their own -/
def vopsX (P : Program) (T : TT) (N : Nat) (sp : Oper → Env → Sto → (Env → Sto → Prop) → Prop) (ops : Array Oper) : List Oper → Env → Sto → (Env → Sto → Prop) → Prop
  | [], env, st, Q => Q env st
  | o :: l, env, st, Q => (o.guard = none ∧ sp o env st fun env st => vopsX P T N sp ops l env st Q) ∨ vgo P T N [] ops o env st fun env st => vopsX P T N sp ops l env st Q
theorem vopsX_ok (TP : TOk P T) {sp : Oper → Env → Sto → (Env → Sto → Prop) → Prop} (hsp : ∀ o env st K, sp o env st K → OpOk P N o env st K) {ops : Array Oper} {Q : Env → Sto → Prop} {G0 : Gh} {w0 : World} :
    ∀ (l : List Oper) (k : Nat), ops.toList.drop k = l → ∀ {env : Env} {st : Sto}, vopsX P T N sp ops l env st Q → ∀ G w a, Ext G0 w0 G w → Inv G w st → RE N G w env a →
    wpOpsIn (fen ρ) 7 P ops (fun e a' w' => ∃ G' env' st', e = .normal ∧ Q env' st' ∧ Ext G0 w0 G' w' ∧ Inv G' w' st' ∧ RE N G' w' env' a') (List.range' k l.length) a w
  | [], k, hk, env, st, h, G, w, a, hX, hI, hE => ⟨G, env, st, rfl, h, hX, hI, hE⟩
  | o :: l, k, hk, env, st, h, G, w, a, hX, hI, hE => by
    have hko : ops[k]? = some o := by
      have := congrArg (·[0]?) hk
      simpa [List.getElem?_drop] using this
    have hk' : ops.toList.drop (k + 1) = l := by rw [← List.drop_drop, hk]; rfl
    rw [List.length_cons, List.range'_succ, wpOpsIn_cons]
    rcases h with ⟨hg, h⟩ | h
    · unfold wpOpIn
      rw [hko]
      dsimp only
      have hw : Region.wanted o (yielded ops a.tmps) = true := by simp [Region.wanted, hg]
      rw [if_pos hw]
      refine Oper.wpIn_mono ?_ (hsp _ _ _ _ h ρ G w a hI hE _)
      rintro a' w' ⟨G', env', st', h1, h2, h3, h4⟩
      exact vopsX_ok TP hsp l (k + 1) hk' h1 G' w' a' (hX.trans h2) h3 h4
    · refine wpOpIn_q (fun _ _ _ h => h) ?_ (vgo_ok TP h hI hE hko)
      rintro a' w' ⟨G', env', st', h1, h2, h3, h4⟩
      exact vopsX_ok TP hsp l (k + 1) hk' h1 G' w' a' (hX.trans h2) h3 h4
theorem Pw.regionX (TP : TOk P T) {sp : Oper → Env → Sto → (Env → Sto → Prop) → Prop} (hsp : ∀ o env st K, sp o env st K → OpOk P N o env st K) {id : Nat} {ops : Array Oper} (h : vopsX P T N sp ops ops.toList env st (Q .normal)) : Pw (ρ := ρ) P N (.region id ops false) Q env st := ⟨fun G w a hI hE => by
  refine wpIn_region (?_ : wpOpsIn (fen ρ) 7 P ops _ (List.range ops.size) a w)
  have := vopsX_ok (ρ := ρ) TP hsp (G0 := G) (w0 := w) ops.toList 0 rfl h G w a (.refl _ _) hI hE
  have e : List.range ops.size = List.range' 0 ops.toList.length := by rw [List.range_eq_range', Array.length_toList]
  rw [e]
  exact wpOpsIn_q (fun e a w ⟨G', env', st', he, h1⟩ => ⟨G', env', st', he ▸ h1⟩) _ _ _ this⟩
/-! ### the operations -/
/-- a live object's block -/
theorem Inv.tp {G : Gh} {w : World} (hI : Inv G w st) {id n : Nat} {T : TypeId} {v : Value} {o : Ob} (ho : st id = some o) (h : RC G w (.ab (tpA id T n)) v) : ∃ g sz cs, G.b id = some (g, sz) ∧ v = .pointer (some (adr g 0)) ∧ w.heap[g]? = some (.cells cs T (0, 0)) ∧ cs.size = n := by
  cases h with | ab _ _ h =>
    obtain ⟨hU, A, rfl, h⟩ := h
    obtain ⟨g, sz, _, hb, _⟩ := hI.get ho
    obtain ⟨rfl, cs, h1, h2⟩ := h g sz hb
    exact ⟨g, sz, cs, hb, rfl, h1, h2⟩
/-- a new variable, whose type is kept in mind -/
theorem OpOk.allocT (TP : TOk P T) {o : Oper} {t : TypeId} (ho : o.op = .alloc t) {i : TI} (hi : T t = some i) {K : Env → Sto → Prop} (h : ∀ id, st id = none → K (put N env o.dst (.c (.ab (tpA id t i.size)))) (upd st id (.bx (i.z.map .v)))) : OpOk P N o env st K := by
  refine .v1 (s := fun ρ => Instr.alloc t true (.tuple #[])) (fun ρ => by unfold execOp; rw [ho]) fun G w a hI hE => ?_
  obtain ⟨id, hu, hn⟩ := hI.fresh
  obtain ⟨z, hz, hzc, hl, hone, hrel⟩ := zero_ok TP (G := G) (w := w) hi
  obtain ⟨hx, hI'⟩ := hI.alloc (w' := w.alloc (.cells z.cells t)) hu (.bx (i.z.map .v)) 0 z.cells t rfl trivial (by show (i.z.map AC.v).length ≤ _; rw [List.length_map, ← hzc]; simp) (fun j c v hj hv => hrel j c v hj (by simpa using hv))
  refine ⟨.pointer (some (adr w.heap.size 0)), w.alloc (.cells z.cells t), _, _, _, ?_, h id hn, hx, hI', .c _ _ (.ab _ _ ⟨.inr rfl, _, rfl, fun g sz hb => ?_⟩)⟩
  · simp [Instr.alloc, hz, newVar, newRow, adr]
  · change (if id = id then _ else _) = _ at hb
    rw [if_pos rfl] at hb
    cases hb
    refine ⟨rfl, z.cells, heap_alloc_new w _, ?_⟩
    have : z.cells.toList.length = i.size := by rw [hzc, hl]
    simpa using this
/-- it is not nil -/
theorem OpOk.tpNil {o : Oper} {t yt : TypeId} {x y : Operand} (ho : o.op = .binOp .eql t x y yt) {e : TypeId} (ht : P.underlying t = some (.pointer e)) {id n : Nat} {T : TypeId} (hx : ev env x = some (.c (.ab (tpA id T n)))) (hy : ev env y = some (.c (.v (.pointer none)))) {K : Env → Sto → Prop} (h : K (put N env o.dst (vB false)) st) : OpOk P N o env st K := by
  refine .v1 (s := fun ρ => do eqGuard .eql t x y (ρ x) (ρ y); binOp .eql t (ρ x) (ρ y)) (fun ρ => by unfold execOp; rw [ho]) fun G w a hI hE => ?_
  have h1 := (ev_ok hE hx).cel
  have h2 := (ev_ok hE hy).cel
  generalize a.eval x = u at h1 ⊢
  generalize a.eval y = v at h2 ⊢
  cases h1 with | ab _ _ h1 =>
    obtain ⟨_, A, rfl, _⟩ := h1
    cases h2
    have hg : (eqGuard .eql t x y (.pointer (some A)) (.pointer none)).run P w = .ok () w := eqGuard_ok _ _ _ _ _ _ (fun _ _ h _ => by cases h) (fun h _ => by cases h)
    refine runB hI (x := .bool false) ?_ rfl h
    have := eqIn_p (P := P) (w := w) 9999 (some A) ht
    simp [hg, binOp, Op.equal, Op.maxDepth, this]
/-- two that are one -/
theorem OpOk.tpSame {o : Oper} {t yt : TypeId} {x y : Operand} (ho : o.op = .binOp .neq t x y yt) {e : TypeId} (ht : P.underlying t = some (.pointer e)) {j : TypeInfo} (hj : P.info? e = some j) {id n : Nat} {T : TypeId} (hx : ev env x = some (.c (.ab (tpA id T n)))) (hy : ev env y = some (.c (.ab (tpA id T n)))) {ob : Ob} (hs : st id = some ob) {K : Env → Sto → Prop}
    (h : K (put N env o.dst (vB false)) st) : OpOk P N o env st K := by
  refine .v1 (s := fun ρ => do eqGuard .neq t x y (ρ x) (ρ y); binOp .neq t (ρ x) (ρ y)) (fun ρ => by unfold execOp; rw [ho]) fun G w a hI hE => ?_
  obtain ⟨g, sz, cs, hb, h1, _⟩ := hI.tp hs (ev_ok hE hx).cel
  obtain ⟨g', sz', cs', hb', h2, _⟩ := hI.tp hs (ev_ok hE hy).cel
  rw [hb] at hb'
  cases hb'
  rw [h1, h2]
  have hg : (eqGuard .neq t x y (.pointer (some (adr g 0))) (.pointer (some (adr g 0)))).run P w = .ok () w := eqGuard_ok _ _ _ _ _ _ (fun _ _ h _ => by cases h) (fun h _ => by cases h)
  refine runB hI (x := .bool false) ?_ rfl h
  simp [hg, Lib.run_neq_ptr_same w (adr g 0) ht hj]
/-- as an unsafe pointer; and back -/
theorem OpOk.tpTo {o : Oper} {s d : TypeId} {x : Operand} (ho : o.op = .convert s d x) {e : TypeId} (hs : P.underlying s = some (.pointer e)) (hd : P.underlying d = some .unsafePointer) {j : TypeInfo} (hj : P.info? e = some j) (hz : j.size ≠ 0) {id n : Nat} {T : TypeId} (hn : 0 < n) (hx : ev env x = some (.c (.ab (tpA id T n)))) {ob : Ob} (hst : st id = some ob) {K : Env → Sto → Prop}
    (h : K (put N env o.dst (.c (.ab (tpA id T n)))) st) : OpOk P N o env st K := by
  refine .v1 (s := fun ρ => convert s d (ρ x)) (fun ρ => by unfold execOp; rw [ho]) fun G w a hI hE => ?_
  have hr := ev_ok hE hx
  obtain ⟨g, sz, cs, hb, h1, h2, h3⟩ := hI.tp hst hr.cel
  rw [h1] at hr ⊢
  exact .pure hI (Lib.run_to_unsafe w (adr g 0) hs hd hj hz (cells := n) (e := T) (by simp [World.shape?, adr, h2, h3]) hn) h hr
theorem OpOk.tpFrom {o : Oper} {s d : TypeId} {x : Operand} (ho : o.op = .convert s d x) {e : TypeId} (hs : P.underlying s = some .unsafePointer) (hd : P.underlying d = some (.pointer e)) {j : TypeInfo} (hj : P.info? e = some j) {id n : Nat} {T : TypeId} (hl : liesAt P P.depth T (n / P.cellsOf T) 0 e 1 = true) (hx : ev env x = some (.c (.ab (tpA id T n)))) {ob : Ob} (hst : st id = some ob) {K : Env → Sto → Prop}
    (h : K (put N env o.dst (.c (.ab (tpA id T n)))) st) : OpOk P N o env st K := by
  refine .v1 (s := fun ρ => convert s d (ρ x)) (fun ρ => by unfold execOp; rw [ho]) fun G w a hI hE => ?_
  have hr := ev_ok hE hx
  obtain ⟨g, sz, cs, hb, h1, h2, h3⟩ := hI.tp hst hr.cel
  rw [h1] at hr ⊢
  exact .pure hI (Lib.run_from_unsafe w (adr g 0) hs hd hj (cells := n) (e := T) (by simp [World.shape?, adr, h2, h3]) hl) h hr
/-- a function that hands back what it got -/
theorem OpOk.same {o : Oper} {f : FuncId} {fn : Func} {x : Operand} {ats : Array TypeId} (ho : o.op = .call { callee := .value (.func f), args := #[x], argTypes := ats }) (hf : P.funcs[f]? = some fn) (hname : (fn.name == "runtime.NumGoroutine") = false)
    (hb : fn.body.isNone = true) (hn : Extern.findNext fn = none) (he : Extern.find fn = some Extern.AbiNoEscape.same) {r : AV} (hx : ev env x = some r) {K : Env → Sto → Prop} (h : K (put N env o.dst r) st) : OpOk P N o env st K := by
  refine .of fun G w a hI hE => ?_
  have hr := ev_ok hE hx
  refine ⟨a.eval x, w, G, r, st, ?_, h, .refl _ _, hI, hr⟩
  obtain ⟨dst, op, ty, pos, after, guard⟩ := o
  dsimp only at ho
  subst ho
  have := run_callFunc_extern hf hname hb hn he #[a.eval x] w
  have e : a.eval (.func f) = .func (.func f) #[] #[] := rfl
  simp [execOp, resolve, e, Deferred.ofValue, invoke, this, Lib.run_noEscape, Result.andThen]
end
end Go.Proofs.YtnafgpgbedcdnaaDoor.D.Pm
namespace Go.Proofs.YtnafgpgbedcdnaaDoor.D.Pm
set_option linter.unusedVariables false
set_option linter.unusedSimpArgs false
open Go
theorem byc_len (s : ByteArray) : (byc s).length = s.size := by simp [byc]
theorem byc_row (s : ByteArray) : ∀ r ∈ byc s, r.length = 1 := fun r hr => by
  unfold byc at hr
  obtain ⟨b, _, rfl⟩ := List.mem_map.1 hr
  rfl
theorem byc_append (s t : ByteArray) : byc (s ++ t) = byc s ++ byc t := by
  unfold byc
  simp
/-- a text behind nothing: a new array -/
theorem Runs.appS0 {P : Program} {T : TT} (TP : TOk P T) {G : Gh} {w : World} {st : Sto} (hI : Inv G w st) {t tx ty e : TypeId} {i j ix : TI} (hi : T t = some i) (hd : i.d = .sl e) (hj : T e = some j) (hz : j.size = 1) (hb : j.bytes = 1) (hix : T tx = some ix) (hxd : ix.d = .s) {s : ByteArray} (h0 : 0 < s.size) (hl2 : s.size ≤ 140737488355328)
    {K : AV → Sto → Prop} (h : ∀ id, st id = none → K (.c (.ab (taA id s.size e))) (upd st id (.ar 1 (byc s)))) : Runs P G w (Builtin.append_ #[t, tx] ty #[.slice none 0 0, .string s]) K := by
  obtain ⟨hrows, news, hsrc, hnl, hrel⟩ := srcp_ok TP hI hix (y := .v (.string s)) (v := .string s) (.v _ rfl) (sz := j.size) (ys := byc s) (by simp [srcp, hz]) (.inr ⟨hxd, s, rfl⟩)
  have hu := und_sl TP hi hd
  obtain ⟨n, hn, hns, hnb, ⟨z, hz0, hzc, _⟩, hzl, hzo⟩ := TP.f e j hj
  have hzs : z.cells.size = j.size := by rw [← hzl, ← hzc]; simp
  rw [← hns] at hsrc
  have hlen := byc_len s
  have hl1 : s.size ≤ maxLen := by unfold maxLen; omega
  have hr := run_append_grow_src (P := P) w t tx ty e n z hu hn hz0 none 0 0 [] (by simp [Builtin.firstCells]) (.string s) (byc s).length news hsrc (by omega) (by unfold maxLen at hl1; omega)
    (by rw [hnb, hb]; exact growslice_fits (by omega) (by simp; omega))
  obtain ⟨id, hfr, hfn⟩ := hI.fresh
  generalize hcc : ((([] : List Value) ++ news).toArray ++ Builtin.zeroCells z.cells (grownCap w (0 + (byc s).length) 0 e - (0 + (byc s).length))) = cells at hr
  have hge := grownCap_ge w (0 + (byc s).length) 0 e
  have hsz : cells.size = grownCap w (0 + (byc s).length) 0 e * j.size := by
    rw [← hcc]
    simp only [Array.size_append, List.nil_append, List.size_toArray, size_zeroCells, hzs, hnl]
    rw [← Nat.add_mul]; congr 1; omega
  rw [hz] at hrows hnl hsz
  obtain ⟨hX, hI'⟩ := hI.alloc (w' := w.drew.alloc (.cells cells e)) hfr (.ar 1 (byc s)) 1 cells e rfl ⟨rfl, hrows⟩ (by
      show (byc s).flatten.length ≤ _
      rw [flat_len hrows, hsz]; exact Nat.mul_le_mul_right _ (by omega)) (fun q c x hc hx => by
      have hq : (news ++ (Builtin.zeroCells z.cells (grownCap w (0 + (byc s).length) 0 e - (0 + (byc s).length))).toList)[q]? = some x := by
        rw [← hcc, ← Array.getElem?_toList, Array.toList_append, List.toList_toArray] at hx; exact hx
      have hlt : q < news.length := by rw [hnl, ← flat_len hrows]; exact (List.getElem?_eq_some_iff.1 hc).1
      rw [List.getElem?_append_left hlt] at hq
      exact hrel q c x hc hq)
  refine ⟨_, _, _, _, _, hr, h id hfn, hX, hI', .c _ _ (.ab _ _ ⟨.inr rfl, some (adr w.heap.size 0), grownCap w (0 + (byc s).length) 0 e, ?_, by omega, grownCap_le_maxLen w _ 0 e (by omega), fun g sz hb => ?_⟩)⟩
  · rw [Nat.zero_add, hlen]; rfl
  · change (if id = id then _ else _) = _ at hb
    rw [if_pos rfl] at hb
    cases hb
    exact ⟨cells, heap_alloc_new w.drew _, .inr rfl, by rw [hsz]; exact Nat.le_refl _⟩
/-- a text behind an array -/
theorem Runs.appS1 {P : Program} {T : TT} (TP : TOk P T) {G : Gh} {w : World} {st : Sto} (hI : Inv G w st) {t tx ty e : TypeId} {i j ix : TI} (hi : T t = some i) (hd : i.d = .sl e) (hj : T e = some j) (hz : j.size = 1) (hb1 : j.bytes = 1) (hix : T tx = some ix) (hxd : ix.d = .s) {s : ByteArray} {rows : List (List AC)} {id : Nat} (ho : st id = some (.ar 1 rows)) {v : Value} (hv : RC G w (.ab (taA id rows.length e)) v) (h0 : 0 < s.size) (hl2 : rows.length + s.size ≤ 140737488355328)
    {K : AV → Sto → Prop} (h : ∀ id', st id' = none → K (.c (.ab (taA id' (rows.length + s.size) e))) (upd (del st id) id' (.ar 1 (rows ++ byc s)))) : Runs P G w (Builtin.append_ #[t, tx] ty #[v, .string s]) K := by
  obtain ⟨hrows, news, hsrc, hnl, hrel⟩ := srcp_ok TP hI hix (y := .v (.string s)) (v := .string s) (.v _ rfl) (sz := j.size) (ys := byc s) (by simp [srcp, hz]) (.inr ⟨hxd, s, rfl⟩)
  have hu := und_sl TP hi hd
  obtain ⟨n, hn, hns, hnb, ⟨z, hz0, hzc, _⟩, hzl, hzo⟩ := TP.f e j hj
  have hzs : z.cells.size = 1 := by rw [← hz, ← hzl, ← hzc]; simp
  have hn1 : n.size = 1 := hns.trans hz
  rw [← hns] at hsrc
  rw [hz] at hrows hnl
  rw [Nat.mul_one] at hnl
  have hlen := byc_len s
  cases hv with | ab _ _ hv =>
  obtain ⟨hU, A, cap, rfl, hc, hm, ha⟩ := hv
  obtain ⟨g, sz, hU', hb, cs, e', hw, ⟨hsz, hr0⟩, hcl, hrel0⟩ := hI.get ho
  cases hsz
  obtain ⟨cs2, hw2, hA, hcap⟩ := ha g _ hb
  rw [hw] at hw2
  cases hw2
  rw [Nat.mul_one] at hcap
  have hrr : ∀ q ∈ rows ++ byc s, q.length = 1 := fun q hq => by
    rcases List.mem_append.1 hq with h | h
    · exact hr0 q h
    · exact hrows q h
  have hfl : (rows ++ byc s).flatten.length = rows.length + s.size := by rw [flat_len hrr, List.length_append, hlen, Nat.mul_one]
  have hf0 : rows.flatten.length = rows.length := by rw [flat_len hr0, Nat.mul_one]
  have hrel1 : ∀ (q : Nat) c u, rows.flatten[q]? = some c → (cs.toList.take rows.length)[q]? = some u → RC G w c u := fun q c u h1 h2 => by
    rw [List.getElem?_take] at h2
    split at h2
    · exact hrel0 q c u h1 (by simpa using h2)
    · cases h2
  have htk : (cs.toList.take rows.length).length = rows.length := by
    rw [List.length_take]; simp; omega
  have hnf : news.length = (byc s).flatten.length := by rw [flat_len hrows, Nat.mul_one, hnl]
  by_cases hroom : rows.length + (byc s).length ≤ cap
  · have hcap0 : cap ≠ 0 := by omega
    have hA' : A = some (adr g 0) := hA.resolve_left hcap0
    subst hA'
    have hfit : rows.length * n.size + news.length ≤ cs.size := by rw [hn1, hnl, Nat.mul_one]; omega
    have hr := append_in (P := P) (ty := ty) hu hn g rows.length cap (.string s) (byc s).length news hsrc hroom cs e hw hfit
    rw [hn1, Nat.mul_one] at hr
    obtain ⟨nid, hnu, hnn⟩ := hI.fresh
    obtain ⟨hX1, hI1⟩ := hI.set hb (.ar 1 (rows ++ byc s)) cs _ e hw (size_setRow w g _) (fun k hk => setRow_other w g k _ hk) (setRow_heap w g cs _ e _ hw) (by
        simp only [List.size_toArray, List.length_append, htk, List.length_drop]; simp; omega) ⟨rfl, hrr⟩ (by
        show (rows ++ byc s).flatten.length ≤ _
        rw [hfl]
        simp only [List.size_toArray, List.length_append, htk, hnl]; omega) (fun q c x hcc hx => cat_rel hr0 (by rw [htk, Nat.mul_one]) hrel1 hnf hrel q c x hcc (by simpa using hx))
      (w' := w.setRow g (cs.toList.take rows.length ++ news ++ cs.toList.drop (rows.length + news.length)).toArray)
    obtain ⟨hX2, hI2⟩ := hI1.ren hb hnu (o := .ar 1 (rows ++ byc s)) (by unfold upd; rw [if_pos rfl])
    have hst : upd (del (upd st id (.ar 1 (rows ++ byc s))) id) nid (.ar 1 (rows ++ byc s)) = upd (del st id) nid (.ar 1 (rows ++ byc s)) := by
      funext q; unfold upd del; by_cases h1 : q = nid <;> by_cases h2 : q = id <;> simp [h1, h2]
    rw [hst] at hI2
    refine ⟨_, _, _, _, _, hr, h nid hnn, hX1.trans hX2, hI2, .c _ _ (.ab _ _ ⟨.inr rfl, _, cap, by rw [hlen], by omega, hm, fun g' sz' hb' => ?_⟩)⟩
    change (if nid = nid then _ else _) = _ at hb'
    rw [if_pos rfl] at hb'
    cases hb'
    refine ⟨_, setRow_heap w g cs _ e _ hw, .inr rfl, ?_⟩
    simp only [List.size_toArray, List.length_append, htk, List.length_drop]
    simp
    omega
  · have hold : (Builtin.firstCells n.size rows.length (.slice A rows.length cap)).run P w.drew = .ok (cs.toList.take rows.length).toArray w.drew := by
      by_cases hl0 : rows.length = 0
      · rw [hl0]
        cases A with
        | none => simp [Builtin.firstCells]
        | some a => simp [Builtin.firstCells, loadCells, loadCellsFrom]
      · have hA' : A = some (adr g 0) := by rcases hA with h | h; omega; exact h
        subst hA'
        refine run_firstCells_some (P := P) w.drew n.size rows.length (adr g 0) rows.length cap (cs.toList.take rows.length) (by rw [htk, hn1, Nat.mul_one]) (fun q x hq => ?_)
        rw [adr_add, Nat.zero_add]
        rw [List.getElem?_take] at hq
        split at hq
        · have : w.cell? (adr g q) = some x := by rw [cell_of hw]; simpa using hq
          exact this
        · cases hq
    have hr := run_append_grow_src (P := P) w t tx ty e n z hu hn hz0 A rows.length cap (cs.toList.take rows.length) hold (.string s) (byc s).length news hsrc (by omega) (by omega)
      (by rw [hnb, hb1]; exact growslice_fits (by omega) (by simp; omega))
    obtain ⟨nid, hfr, hfn⟩ := hI.fresh
    have hge := grownCap_ge w (rows.length + (byc s).length) cap e
    generalize hcc : ((cs.toList.take rows.length ++ news).toArray ++ Builtin.zeroCells z.cells (grownCap w (rows.length + (byc s).length) cap e - (rows.length + (byc s).length))) = cells at hr
    have hsz : cells.size = grownCap w (rows.length + (byc s).length) cap e := by
      rw [← hcc]
      simp only [Array.size_append, List.size_toArray, List.length_append, htk, size_zeroCells, hzs, hnl]
      omega
    have hI0 : Inv G w (del st id) := hI.le (fun q o h => by unfold del at h; split at h; cases h; exact h)
    obtain ⟨hX, hI'⟩ := hI0.alloc (w' := w.drew.alloc (.cells cells e)) hfr (.ar 1 (rows ++ byc s)) 1 cells e rfl ⟨rfl, hrr⟩ (by
        show (rows ++ byc s).flatten.length ≤ _
        rw [hfl, hsz]; omega) (fun q c x hcx hx => by
        have hq : (cs.toList.take rows.length ++ news ++ (Builtin.zeroCells z.cells (grownCap w (rows.length + (byc s).length) cap e - (rows.length + (byc s).length))).toList)[q]? = some x := by
          rw [← hcc, ← Array.getElem?_toList, Array.toList_append, List.toList_toArray] at hx; exact hx
        exact cat_rel hr0 (by rw [htk, Nat.mul_one]) hrel1 hnf hrel q c x hcx hq)
    refine ⟨_, _, _, _, _, hr, h nid hfn, hX, hI', .c _ _ (.ab _ _ ⟨.inr rfl, _, grownCap w (rows.length + (byc s).length) cap e, by rw [hlen], by omega, grownCap_le_maxLen w _ cap e (by unfold maxLen; omega), fun g' sz' hb' => ?_⟩)⟩
    change (if nid = nid then _ else _) = _ at hb'
    rw [if_pos rfl] at hb'
    cases hb'
    exact ⟨cells, heap_alloc_new w.drew _, .inr rfl, by rw [hsz, Nat.mul_one]; exact Nat.le_refl _⟩
end Go.Proofs.YtnafgpgbedcdnaaDoor.D.Pm
namespace Go.Proofs.YtnafgpgbedcdnaaDoor.D.Pm
set_option linter.unusedVariables false
set_option linter.unusedSimpArgs false
open Go
section
variable {P : Program} {T : TT} {N : Nat} {ρ : Option Nat} {Q : Exit → Env → Sto → Prop} {env : Env} {st : Sto}
theorem OpOk.tpCheck {o : Oper} {x : Operand} (ho : o.op = .nilCheck x) {id n : Nat} {Tt : TypeId} (hx : ev env x = some (.c (.ab (tpA id Tt n)))) {K : Env → Sto → Prop} (h : K (put N env o.dst (.c (.ptr id 0))) st) : OpOk P N o env st K := by
  refine .of fun G w a hI hE => ?_
  have hr := (ev_ok hE hx).cel
  have hp := hr.tp
  have hv : ∃ A, a.eval x = .pointer (some A) := by generalize a.eval x = u at hp; cases hp; exact ⟨_, rfl⟩
  obtain ⟨A, hv⟩ := hv
  exact ⟨a.eval x, w, G, _, st, by unfold execOp; rw [ho]; simp [hv], h, .refl _ _, hI, .c _ _ hp⟩
theorem OpOk.taLen (TP : TOk P T) {o : Oper} {t : TypeId} {x : Operand} (ho : o.op = .call { callee := .builtin .len, args := #[x], argTypes := #[t] }) {i : TI} (hi : T t = some i) (hs : isSl i.d = true) {id n : Nat} {e : TypeId} (hx : ev env x = some (.c (.ab (taA id n e)))) {K : Env → Sto → Prop} (h : K (put N env o.dst (vI .i64 n)) st) : OpOk P N o env st K := by
  obtain ⟨dst, op, ty, pos, after, guard⟩ := o
  dsimp only at ho h
  subst ho
  refine .of fun G w a hI hE => ?_
  have hr := (ev_ok hE hx).cel
  have hv : ∃ A cap, a.eval x = .slice A n cap ∧ n ≤ maxLen := by
    generalize a.eval x = u at hr
    cases hr with | ab _ _ h =>
      obtain ⟨_, A, cap, e, h1, h2, _⟩ := h
      exact ⟨A, cap, e, Nat.le_trans h1 h2⟩
  obtain ⟨A, cap, hv, hm⟩ := hv
  have hsl : ∃ e, P.underlying t = some (.slice e) := by
    cases hd : i.d with
    | sl e => exact ⟨e, und_sl TP hi hd⟩
    | _ => rw [hd] at hs; cases hs
  obtain ⟨e, hu⟩ := hsl
  refine ⟨.int .i64 n, w, G, _, st, ?_, h, .refl _ _, hI, RV.one _ rfl⟩
  have he : execOp a.eval ⟨dst, .call { callee := .builtin .len, args := #[x], argTypes := #[t] }, ty, pos, after, guard⟩ = (do pure (.value (← Builtin.len_ #[t] ty (#[x].map a.eval)))) := rfl
  rw [he]
  simp [hv, Builtin.len_, run_underlying hu, goInt_nat n hm]
theorem OpOk.appS (TP : TOk P T) {o : Oper} {t ts : TypeId} {x y : Operand} (ho : o.op = .call { callee := .builtin .append, args := #[x, y], argTypes := #[t, ts] }) {i j ix : TI} {e : TypeId} (hi : T t = some i) (hd : i.d = .sl e) (hj : T e = some j) (hz : j.size = 1) (hb1 : j.bytes = 1) (hix : T ts = some ix) (hxd : ix.d = .s) {b : AC} {s r : ByteArray} (hx : ev env x = some (.c b)) (hy : ev env y = some (vS s)) (h0 : 0 < s.size) (hl : r.size + s.size ≤ 140737488355328)
    (i2 : Option Nat) (hb : (b = .v (.slice none 0 0) ∧ r = ⟨#[]⟩ ∧ i2 = none) ∨ ∃ id2, b = .ab (taA id2 r.size e) ∧ st id2 = some (.ar 1 (byc r)) ∧ i2 = some id2) {K : Env → Sto → Prop}
    (h : ∀ id' st', st id' = none → st' id' = some (.ar 1 (byc (r ++ s))) → (∀ i o, i ≠ id' → st i = some o → some i ≠ i2 → st' i = some o) → K (put N env o.dst (.c (.ab (taA id' (r ++ s).size e)))) st') : OpOk P N o env st K := by
  obtain ⟨dst, op, ty, pos, after, guard⟩ := o
  dsimp only at ho h
  subst ho
  have hsz : (r ++ s).size = r.size + s.size := ByteArray.size_append
  refine OpOk.v1 (s := fun ρ => Builtin.append_ #[t, ts] ty (#[x, y].map ρ)) (fun ρ => rfl) fun G w a hI hE => ?_
  have h1 := (ev_ok hE hx).cel
  have h2 : a.eval y = .string s := by have := (ev_ok hE hy).cel; generalize a.eval y = u at this; cases this; rfl
  simp only [List.map_toArray, List.map_cons, List.map_nil, h2]
  rcases hb with ⟨rfl, rfl, rfl⟩ | ⟨id2, rfl, hs, rfl⟩
  · have h3 : a.eval x = .slice none 0 0 := by generalize a.eval x = u at h1; cases h1; rfl
    rw [h3]
    have he : (⟨#[]⟩ : ByteArray) ++ s = s := by apply ByteArray.ext; simp
    rw [he] at h hsz
    refine Runs.appS0 TP hI hi hd hj hz hb1 hix hxd h0 (Nat.le_trans (Nat.le_add_left ..) hl) fun id' hid => h id' _ hid (upd_same _ _ _) fun i o hne hi _ => (upd_ne _ hne).trans hi
  · have hb2 := byc_len r
    have e1 : (byc r).length = r.size := hb2
    refine Runs.appS1 TP hI hi hd hj hz hb1 hix hxd (rows := byc r) hs (by rw [e1]; exact h1) h0 (by rw [e1]; exact hl) fun id' hid => ?_
    rw [e1, ← byc_append, ← hsz]
    refine h id' _ hid (upd_same _ _ _) fun i o hne hi hn => ?_
    rw [upd_ne _ hne]
    unfold del
    rw [if_neg (fun e => hn (congrArg some e))]
    exact hi
end
/-- a builder that holds the text s; all else is as in st0 -/
structure Bl (st0 st : Sto) (id : Nat) (Tt e : TypeId) (a b : AC) (s : ByteArray) : Prop where
  mk ::
  le : Le st0 st
  new : st0 id = none
  at_ : st id = some (.bx [a, b])
  ad : a = .v (.pointer none) ∨ a = .ab (tpA id Tt 2)
  bf : (b = .v (.slice none 0 0) ∧ s = ⟨#[]⟩) ∨ ∃ id2, b = .ab (taA id2 s.size e) ∧ st id2 = some (.ar 1 (byc s)) ∧ st0 id2 = none
/-- its address is set -/
theorem Bl.set {st0 st : Sto} {id : Nat} {Tt e : TypeId} {a b : AC} {s : ByteArray} (h : Bl st0 st id Tt e a b s) : Bl st0 (upd st id (.bx [.ab (tpA id Tt 2), b])) id Tt e (.ab (tpA id Tt 2)) b s := by
  refine ⟨h.le.up2 h.new, h.new, upd_same _ _ _, .inr rfl, h.bf.imp (fun h => h) fun ⟨i2, h1, h2, h3⟩ => ⟨i2, h1, ?_, h3⟩⟩
  rw [upd_ne _ (fun e => by subst e; rw [h.at_] at h2; cases h2)]
  exact h2
theorem freeze_facts {w : World} {g : Nat} {cs : Array Value} {e : TypeId} (hw : w.heap[g]? = some (.cells cs e (0, 0))) (n : Nat) : (w.drew.freeze ⟨g, 0, none⟩ n).heap.size = w.heap.size ∧ (∀ k, k ≠ g → (w.drew.freeze ⟨g, 0, none⟩ n).heap[k]? = w.heap[k]?) ∧ (∀ a, (w.drew.freeze ⟨g, 0, none⟩ n).cell? a = w.cell? a) ∧
    ((w.drew.freeze ⟨g, 0, none⟩ n).os = w.os ∧ (w.drew.freeze ⟨g, 0, none⟩ n).tape = w.tape ∧ (w.drew.freeze ⟨g, 0, none⟩ n).output = w.output) := by
  have hw' : w.drew.heap[g]? = some (.cells cs e (0, 0)) := hw
  by_cases hn : n = 0
  · subst hn
    unfold World.freeze
    rw [if_pos rfl]
    exact ⟨rfl, fun _ _ => rfl, fun _ => rfl, rfl, rfl, rfl⟩
  refine ⟨?_, fun k hk => ?_, fun a => ?_, ?_⟩
  · unfold World.freeze
    rw [if_neg hn]
    simp only [Array.size_modify]
    rfl
  · unfold World.freeze
    rw [if_neg hn]
    simp only [Array.getElem?_modify]
    rw [if_neg (Ne.symm hk)]
    rfl
  · unfold World.freeze World.cell?
    rw [if_neg hn]
    by_cases h : g = a.block
    · simp only [Array.getElem?_modify]
      rw [if_pos h, ← h, hw', hw]
      rfl
    · simp only [Array.getElem?_modify]
      rw [if_neg h]
      rfl
  · unfold World.freeze
    rw [if_neg hn]
    exact ⟨rfl, rfl, rfl⟩
/-- an object gets marks and is let go -/
theorem Inv.mute {G : Gh} {w w' : World} {st : Sto} (hI : Inv G w st) {id g sz : Nat} (hb : G.b id = some (g, sz)) (hs : w'.heap.size = w.heap.size) (hk : ∀ k, k ≠ g → w'.heap[k]? = w.heap[k]?) (hcell : ∀ a, w'.cell? a = w.cell? a) (hout : w'.os = w.os ∧ w'.tape = w.tape ∧ w'.output = w.output) :
    Ext G w (G.frz (only id) st w) w' ∧ Inv (G.frz (only id) st w) w' (del st id) := by
  have hnb : ∀ i' g' sz', (G.frz (only id) st w).b i' = some (g', sz') → g' ≠ g := fun i' g' sz' hb' hg => by
    rcases frz_b (G := G) (D := only id) (st := st) (w := w) i' with h1 | ⟨h1, h2⟩
    · rw [h1] at hb'; cases hb'
    · rw [h2] at hb'
      subst hg
      have := hI.inj _ _ _ _ _ hb' (by rw [hb, Option.some.injEq, Prod.mk.injEq]; exact ⟨rfl, rfl⟩ : G.b id = some (g', sz))
      subst this
      simp [only] at h1
  have hx1 := Ext.frz G (only id) st w
  have hI1 := hI.frz (only id) (st' := del st id) (fun k o hk => by
    unfold del at hk
    split at hk
    · cases hk
    · rename_i hne; exact ⟨hk, by unfold only; exact decide_eq_false hne⟩)
  have hgX : ¬ G.X g := (hI.lt id g sz hb).2.2
  refine ⟨⟨⟨by omega, hx1.U, hx1.X, fun k hX => hk k (fun e => hgX (e ▸ hX)), hx1.live, fun i' g' sz' hi hb' cs0 e0 hc0 => ⟨cs0, ?_, rfl⟩⟩, hx1.R, hx1.res, hout, rfl⟩, ⟨fun i' o hh => ?_, fun i' g' sz' hb' => by rw [hs]; exact hI1.lt i' g' sz' hb', hI1.inj, fun k hX => by rw [hs]; exact hI1.X k hX, hI1.new⟩⟩
  · rw [hk g' (hnb _ _ _ hb')]; exact hc0
  · obtain ⟨g', sz', cs', e1, q1, q2, q3, q4, q5, q6⟩ := hI1.obj i' o hh
    exact ⟨g', sz', cs', e1, q1, q2, by rw [hk g' (hnb _ _ _ q2)]; exact q3, q4, q5, fun j c v a b => (q6 j c v a b).look hcell (fun i3 g3 s3 h3 => hk g3 (hnb _ _ _ h3))⟩
/-- a builder's bytes in memory -/
theorem Bl.mem {st0 st : Sto} {id : Nat} {Tt e : TypeId} {a b : AC} {s : ByteArray} (h : Bl st0 st id Tt e a b s) (h0 : 0 < s.size) {G : Gh} {w : World} (hI : Inv G w st) {v : Value} (hv : RC G w (.ab (tpA id Tt 2)) v) :
    ∃ g cb id2 g2 cap cur sz2, v = .pointer (some ⟨g, 0, none⟩) ∧ w.heap[g]? = some (.cells cb Tt (0, 0)) ∧ cb[1]? = some (.slice (some ⟨g2, 0, none⟩) s.data.toList.length cap) ∧ G.b id2 = some (g2, sz2) ∧ st0 id2 = none ∧ id2 ≠ id ∧
      w.heap[g2]? = some (.cells cur e (0, 0)) ∧ s.data.toList.length ≤ cap ∧ cap ≤ maxLen ∧ cap ≤ cur.size ∧ (∀ (j : Nat) x, s.data.toList[j]? = some x → cur[j]? = some (.int .u8 x.toNat)) ∧ s.data.toList ≠ [] := by
  obtain ⟨g, sz, cs, hb, hv', hw, hs2⟩ := hI.tp h.at_ hv
  have hsl : s.data.toList.length = s.size := by simp
  rcases h.bf with ⟨_, rfl⟩ | ⟨id2, rfl, k1, k2⟩
  · exact absurd h0 (by decide)
  obtain ⟨g', sz', cs', e', _, hb', hw', _, hle', hrel⟩ := hI.obj id _ h.at_
  rw [hb] at hb'; cases hb'
  rw [hw] at hw'; cases hw'
  have hlt : 1 < cs.size := by omega
  have hc := hrel 1 (.ab (taA id2 s.size e)) cs[1] rfl (Array.getElem?_eq_getElem hlt)
  have hg1 : cs[1]? = some cs[1] := Array.getElem?_eq_getElem hlt
  generalize cs[1] = u at hc hg1
  obtain ⟨g2, sz2, cur, e2, _, hb2, hw2, ⟨hz2, hr2⟩, hl2, hrel2⟩ := hI.obj id2 _ k1
  cases hc with | ab _ _ hc =>
  obtain ⟨_, A, cap, rfl, h1, h2, h3⟩ := hc
  obtain ⟨cur', hw3, hA, hcap⟩ := h3 g2 sz2 hb2
  rw [hw2] at hw3
  cases hw3
  have hA' : A = some (adr g2 0) := hA.resolve_left (by omega)
  subst hA' hz2
  refine ⟨g, cs, id2, g2, cap, cur, 1, hv', hw, by rw [hsl]; exact hg1, hb2, k2, fun e3 => ?_, hw2, by rw [hsl]; exact h1, h2, by omega, fun j x hj => ?_, fun e3 => ?_⟩
  · subst e3; rw [h.at_] at k1; cases k1
  · have hj' : j < cur.size := by
      have := (List.getElem?_eq_some_iff.1 hj).1
      omega
    have e4 : (Ob.ar 1 (byc s)).cells[j]? = some (.v (.int .u8 x.toNat)) := by
      show (byc s).flatten[j]? = _
      rw [byc_flat, List.getElem?_map, hj]; rfl
    have := hrel2 j _ _ e4 (Array.getElem?_eq_getElem hj')
    rw [Array.getElem?_eq_getElem hj']
    generalize cur[j] = u at this
    cases this
    rfl
  · rw [e3] at hsl
    simp at hsl
    omega
theorem Bl.up {st0 st st' : Sto} {id : Nat} {Tt e : TypeId} {a b : AC} {s : ByteArray} (h : Bl st0 st id Tt e a b s) (hle : Le st st') : Bl st0 st' id Tt e a b s :=
  ⟨h.le.trans hle, h.new, hle _ _ h.at_, h.ad, h.bf.imp (fun h => h) fun ⟨i, h1, h2, h3⟩ => ⟨i, h1, hle _ _ h2, h3⟩⟩
/-- a variable that no one writes to any more -/
theorem Pw.frzB {P : Program} {N : Nat} {ρ : Option Nat} {st st' : Sto} {env : Env} {c : Code} {Q : Exit → Env → Sto → Prop} (t : Nat) (keep : List Nat) {id : Nat} {cs : List AC} (hl : look env t = some (.c (.ptr id 0))) (hs : st id = some (.bx cs)) (hst : ∀ i o, st' i = some o → st i = some o ∧ i ≠ id)
    (h : Pw (ρ := ρ) P N c Q ((t, .c (.ep cs)) :: sub env keep) st') : Pw (ρ := ρ) P N c Q env st := by
  refine Pw.view (only id) ((t, .c (.ep cs)) :: sub env keep) st' ⟨⟨_, hl, .c _ _ (.ptr id 0 cs (by simp [only]) hs)⟩, ?_⟩ (fun i o hi => ⟨(hst i o hi).1, by unfold only; exact decide_eq_false (hst i o hi).2⟩) h
  have := (EVe.sub (env := env) keep)
  exact go this
where go {D : Nat → Bool} {st : Sto} {env : Env} : ∀ {l : Env}, EVe env l → EV D st env l
  | [], _ => trivial
  | (t, r) :: l, ⟨h1, h2⟩ => ⟨⟨r, h1, .refl _⟩, go h2⟩
end Go.Proofs.YtnafgpgbedcdnaaDoor.D.Pm
namespace Go.Proofs.YtnafgpgbedcdnaaDoor.D.Pm
set_option linter.unusedVariables false
set_option linter.unusedSimpArgs false
open Go
variable {P : Program} {T : TT} {N : Nat} {env : Env} {st : Sto}
/-- a pointer that is not nil, and the first field's -/
theorem OpOk.tpKeep {o : Oper} {x : Operand} (ho : o.op = .nilCheck x) {id n : Nat} {Tt : TypeId} (hx : ev env x = some (.c (.ab (tpA id Tt n)))) {K : Env → Sto → Prop} (h : K (put N env o.dst (.c (.ab (tpA id Tt n)))) st) : OpOk P N o env st K := by
  refine .of fun G w a hI hE => ?_
  have hr := ev_ok hE hx
  have hv : ∃ A, a.eval x = .pointer (some A) := by
    have hp := hr.cel.tp
    generalize a.eval x = u at hp
    cases hp
    exact ⟨_, rfl⟩
  obtain ⟨A, hv⟩ := hv
  exact ⟨a.eval x, w, G, _, st, by unfold execOp; rw [ho]; simp [hv], h, .refl _ _, hI, hr⟩
theorem OpOk.tpField (TP : TOk P T) {o : Oper} {t : TypeId} {x : Operand} {k : Nat} (ho : o.op = .fieldAddr t x k) {i : TI} (hi : T t = some i) {fs : List (Nat × TypeId)} (hd : i.d = .st fs) {ft : TypeId} (hf : fs[k]? = some (0, ft)) {j : TI} (hj : T ft = some j) (hz : j.size ≠ 0) {id n : Nat} {Tt : TypeId} (hx : ev env x = some (.c (.ab (tpA id Tt n)))) {K : Env → Sto → Prop}
    (h : K (put N env o.dst (.c (.ab (tpA id Tt n)))) st) : OpOk P N o env st K := by
  refine .v1 (s := fun ρ => Instr.fieldAt t (ρ x) k) (fun ρ => by unfold execOp; rw [ho]) fun G w a hI hE => ?_
  have hr := ev_ok hE hx
  have hv : ∃ A, a.eval x = .pointer (some A) := by
    have hp := hr.cel.tp
    generalize a.eval x = u at hp
    cases hp
    exact ⟨_, rfl⟩
  obtain ⟨A, hv⟩ := hv
  rw [hv] at hr ⊢
  obtain ⟨d, h3, h4⟩ := TP.u t i hi
  rw [hd] at h4
  obtain ⟨arr, rfl, h5⟩ := h4
  rw [← h5, List.getElem?_map] at hf
  obtain ⟨f, hf1, hf2⟩ := Option.map_eq_some_iff.1 hf
  have hf3 : arr[k]? = some f := by simpa using hf1
  have hf4 : f.offset = 0 ∧ f.type = ft := by injection hf2 with a b; exact ⟨a, b⟩
  have hsz := run_size TP (w := w) hj
  have hA : A.add 0 = A := by cases A; simp [Addr.add]
  refine Runs.pure (v := .pointer (some A)) (r := .c (.ab (tpA id Tt n))) (K := fun r st' => K (put N env o.dst r) st') hI ?_ h hr
  simp [Instr.fieldAt, run_underlying h3, hf3, Instr.sureAddr, fieldPlace, hf4.1, hf4.2, hsz, hz, hA]
/-- a new variable with a value, whose type is kept in mind -/
theorem OpOk.boxT {o : Oper} {t : TypeId} {x : Operand} (ho : o.op = .box t x) {r : AV} (hx : ev env x = some r) (ht : ∀ l, r ≠ .t l) {K : Env → Sto → Prop} (h : ∀ id, st id = none → K (put N env o.dst (.c (.ab (tpA id t (avc r).length)))) (upd st id (.bx (avc r)))) : OpOk P N o env st K := by
  refine .v1 (s := fun ρ => Instr.box t (ρ x)) (fun ρ => by unfold execOp; rw [ho]) fun G w a hI hE => ?_
  obtain ⟨id, hu, hn⟩ := hI.fresh
  have hr := ev_ok hE hx
  generalize a.eval x = x at hr ⊢
  obtain ⟨h1, h2, h3⟩ := avc_ok hr ht
  obtain ⟨hx, hI'⟩ := hI.alloc (w' := w.alloc (.cells x.cells t)) hu (.bx (avc r)) 0 x.cells t rfl trivial (Nat.le_of_eq h1.symm) (fun j c v hj hv => h2 j c v hj (by simpa using hv))
  refine ⟨.pointer (some (adr w.heap.size 0)), w.alloc (.cells x.cells t), _, _, _, ?_, h id hn, hx, hI', .c _ _ (.ab _ _ ⟨.inr rfl, _, rfl, fun g sz hb => ?_⟩)⟩
  · simp [Instr.box, newVar, newRow, adr]
  · change (if id = id then _ else _) = _ at hb
    rw [if_pos rfl] at hb
    cases hb
    exact ⟨rfl, x.cells, heap_alloc_new w _, h1⟩
end Go.Proofs.YtnafgpgbedcdnaaDoor.D.Pm
namespace Go.Proofs.YtnafgpgbedcdnaaDoor.D.Pm
set_option linter.unusedVariables false
set_option linter.unusedSimpArgs false
open Go Go.RowKit
/-- what only adds blocks, keeps all -/
theorem Inv.below {G : Gh} {w w' : World} {st : Sto} (hI : Inv G w st) (h : Below w.heap.size w w') : Ext G w G w' ∧ Inv G w' st := by
  have hs : ∀ id g sz, G.b id = some (g, sz) → w'.heap[g]? = w.heap[g]? := fun id g sz hb => h.block g (hI.lt id g sz hb).2.1
  have x : Ext G w G w' := ⟨⟨h.size, fun _ h => h, fun _ h => h, fun k hk => h.block k (hI.X k hk), fun _ _ => .inr rfl, fun id g sz _ hb cs e hc => ⟨cs, by rw [hs id g sz hb]; exact hc, rfl⟩⟩, fun _ h => h, fun _ _ h => h, ⟨h.os, h.tape, h.output⟩, rfl⟩
  refine ⟨x, ⟨fun id o ho => ?_, fun id g sz hb => ?_, hI.inj, fun k hk => Nat.lt_of_lt_of_le (hI.X k hk) h.size, hI.new⟩⟩
  · obtain ⟨g, sz, cs, e, h1, h2, h3, h4, h5, h6⟩ := hI.obj id o ho
    exact ⟨g, sz, cs, e, h1, h2, by rw [hs id g sz h2]; exact h3, h4, h5, fun j c v a b => (h6 j c v a b).ext x⟩
  · obtain ⟨h1, h2, h3⟩ := hI.lt id g sz hb
    exact ⟨h1, Nat.lt_of_lt_of_le h2 h.size, h3⟩
/-- a package variable that is not written: as an object of the store -/
def glA (id g : Nat) (x : Value) (hx : x.oneCell' = true) : Abs where
  F := fun G w v => v = x ∧ G.U id ∧ ∀ k sz, G.b id = some (k, sz) → k = g
  one := fun ⟨e, _⟩ => by subst e; exact hx
  stp := fun x ⟨e, hU, h⟩ => ⟨e, x.U _ hU, fun k sz hb => by
    rcases x.live _ hU with h1 | h1
    · rw [h1] at hb; cases hb
    · exact h k sz (h1 ▸ hb)⟩
/-- its cell -/
theorem Inv.glob {G : Gh} {w : World} {st : Sto} (hI : Inv G w st) {id g : Nat} {x : Value} {hx : x.oneCell' = true} (h : st id = some (.bx [.ab (glA id g x hx)])) : ∃ cs e, w.heap[g]? = some (.cells cs e (0, 0)) ∧ cs[0]? = some x := by
  obtain ⟨k, sz, cs, e, h1, h2, h3, h4, h5, h6⟩ := hI.obj id _ h
  have hl : 0 < cs.size := h5
  have := h6 0 _ cs[0] rfl (Array.getElem?_eq_getElem hl)
  cases this with | ab _ _ hF =>
    obtain ⟨e1, _, e2⟩ := hF
    have := e2 k sz h2
    subst this
    exact ⟨cs, e, h3, by rw [Array.getElem?_eq_getElem hl, e1]⟩
/-- the ghosts at a law's begin, with a variable as an object -/
def topM (w : World) (g sz : Nat) : Gh := ⟨fun i => i = 0, fun _ => False, fun i => if i = 0 then some (g, sz) else none, fun k => k < w.heap.size ∧ k ≠ g, 0⟩
end Go.Proofs.YtnafgpgbedcdnaaDoor.D.Pm
namespace Go.Proofs.YtnafgpgbedcdnaaDoor.D.Pm
set_option linter.unusedVariables false
set_option linter.unusedSimpArgs false
open Go
/-- an empty list with room -/
theorem Runs.make0 {P : Program} {T : TT} (TP : TOk P T) {G : Gh} {w : World} {st : Sto} (hI : Inv G w st) {t e : TypeId} {i z : TI} (h3 : T t = some i) (h4 : i.d = .sl e) (h5 : T e = some z) {k k' : IntKind} {c : Int} (h6 : 0 ≤ c) (h7 : c ≤ 9223372036854775807) (h8 : c.toNat ≤ maxLen)
    (h9 : z.bytes * c ≤ 140737488355328) (h10 : z.size ≠ 0) {K : AV → Sto → Prop} (h : ∀ id, st id = none → K (.c (.arr id 0 0)) (upd st id (.ar z.size []))) : Runs P G w (Instr.makeSlice t (.int k 0) (.int k' c)) K := by
  have hu := und_sl TP h3 h4
  obtain ⟨ni, hn, hns, hnb, ⟨zv, hz0, hzc, _⟩, hzl, hzo⟩ := TP.f e z h5
  have hrun := run_make (P := P) w t e ni zv hu hn hz0 k k' 0 c (Int.le_refl _) h6 (by rw [hnb]; omega) h7
  obtain ⟨id, hfr, hfn⟩ := hI.fresh
  have hsz : (madeCells zv.cells (c.toNat * ni.size)).size = c.toNat * z.size := by rw [size_madeCells, hns]
  obtain ⟨hX, hI'⟩ := hI.alloc (w' := w.alloc (.cells (madeCells zv.cells (c.toNat * ni.size)) e)) hfr (.ar z.size []) z.size _ e rfl ⟨rfl, fun q hq => by cases hq⟩ (Nat.zero_le _) (fun j c v x y => by cases x)
  refine ⟨_, _, _, _, _, hrun, h id hfn, hX, hI', .c _ _ (.arr id 0 0 _ _ (.inr rfl) (Nat.zero_le _) h8 (fun g sz hbb => ?_))⟩
  change (if id = id then _ else _) = _ at hbb
  rw [if_pos rfl] at hbb
  cases hbb
  exact ⟨_, e, heap_alloc_new w _, .inr (by rw [Nat.zero_mul]; rfl), by rw [Nat.zero_add, hsz]; exact Nat.le_refl _⟩
theorem OpOk.make0 {P : Program} {T : TT} {N : Nat} {env : Env} {st : Sto} (TP : TOk P T) {o : Oper} {t : TypeId} {l c : Operand} (ho : o.op = .makeSlice t l c) {k k' : IntKind} {n : Int} (hl : ev env l = some (vI k 0)) (hc : ev env c = some (vI k' n)) {e : TypeId} {i z : TI} (h3 : T t = some i) (h4 : i.d = .sl e) (h5 : T e = some z)
    (h6 : 0 ≤ n) (h7 : n ≤ 9223372036854775807) (h8 : n.toNat ≤ maxLen) (h9 : z.bytes * n ≤ 140737488355328) (h10 : z.size ≠ 0) {K : Env → Sto → Prop} (h : ∀ id, st id = none → K (put N env o.dst (.c (.arr id 0 0))) (upd st id (.ar z.size []))) : OpOk P N o env st K := by
  refine .v1 (s := fun ρ => Instr.makeSlice t (ρ l) (ρ c)) (fun ρ => by unfold execOp; rw [ho]) fun G w a hI hE => ?_
  have h1 := (ev_ok hE hl).cel
  have h2 := (ev_ok hE hc).cel
  generalize a.eval l = x at h1 ⊢
  generalize a.eval c = y at h2 ⊢
  cases h1
  cases h2
  exact Runs.make0 TP hI h3 h4 h5 h6 h7 h8 h9 h10 h
end Go.Proofs.YtnafgpgbedcdnaaDoor.D.Pm
namespace Go.Proofs.YtnafgpgbedcdnaaDoor.D.Pm
set_option linter.unusedVariables false
set_option linter.unusedSimpArgs false
open Go Go.RowKit
/-- the store at a law's begin: one variable, at block 0 -/
def stM (m : Int) : Sto := fun i => if i = 0 then some (.bx [.ab (glA 0 0 (.int .i64 m) rfl)]) else none
theorem stM_at (m : Int) : stM m 0 = some (.bx [.ab (glA 0 0 (.int .i64 m) rfl)]) := rfl
theorem topM_inv {w : World} {m : Int} {cs : Array Value} {e : TypeId} (h : w.heap[0]? = some (.cells cs e (0, 0))) (h0 : cs[0]? = some (.int .i64 m)) : Inv (topM w 0 1) w (stM m) := by
  have hlt : 0 < w.heap.size := (Array.getElem?_eq_some_iff.1 h).1
  have hcs : 0 < cs.size := (Array.getElem?_eq_some_iff.1 h0).1
  have hb : ∀ id g sz, (topM w 0 1).b id = some (g, sz) → id = 0 ∧ g = 0 ∧ sz = 1 := fun id g sz hb => by
    change (if id = 0 then some (0, 1) else none) = some (g, sz) at hb
    by_cases hi : id = 0
    · rw [if_pos hi] at hb; cases hb; exact ⟨hi, rfl, rfl⟩
    · rw [if_neg hi] at hb; cases hb
  refine ⟨fun id o ho => ?_, fun id g sz h => ?_, fun id id' g sz sz' h1 h2 => ?_, fun k hk => hk.1, 1, fun id hid => ?_⟩
  · unfold stM at ho
    by_cases hi : id = 0
    · rw [if_pos hi] at ho
      cases ho
      subst hi
      refine ⟨0, 1, cs, e, rfl, rfl, h, trivial, hcs, fun j c v h1 h2 => ?_⟩
      match j, h1, h2 with
      | 0, h1, h2 =>
        cases h1
        rw [h0] at h2
        cases h2
        exact .ab _ _ ⟨rfl, rfl, fun k sz hk => (hb 0 k sz hk).2.1⟩
      | j + 1, h1, h2 => simp [Ob.cells] at h1
    · rw [if_neg hi] at ho; cases ho
  · obtain ⟨rfl, rfl, rfl⟩ := hb _ _ _ h
    exact ⟨rfl, hlt, fun hx => hx.2 rfl⟩
  · rw [(hb _ _ _ h1).1, (hb _ _ _ h2).1]
  · rcases hid with hid | hid
    · have : id = 0 := hid
      omega
    · exact hid.elim
theorem topM_below {w w' : World} {G : Gh} {m : Int} {cs : Array Value} {e : TypeId} (h : w.heap[0]? = some (.cells cs e (0, 0))) (h0 : cs[0]? = some (.int .i64 m)) (h1 : cs.size = 1) (x : Ext (topM w 0 1) w G w') (hI : Inv G w' (stM m)) : Below w.heap.size w w' := by
  refine ⟨x.out.1, x.out.2.1, x.out.2.2, x.size, fun k hk => ?_⟩
  by_cases hk0 : k = 0
  · subst hk0
    obtain ⟨g, sz, cs1, e1, k1, k2, k3, k4, k5, k6⟩ := hI.obj 0 _ (stM_at m)
    have hl : 0 < cs1.size := k5
    have := k6 0 _ cs1[0] rfl (Array.getElem?_eq_getElem hl)
    cases this with | ab _ _ hF =>
      obtain ⟨f1, _, f2⟩ := hF
      have hg := f2 g sz k2
      subst hg
      obtain ⟨cs2, s1, s2⟩ := x.shape 0 0 sz rfl k2 cs e h
      rw [s1] at k3
      cases k3
      rw [s1, h]
      have : cs1 = cs := by
        apply Array.ext
        · exact s2
        · intro i hi hi'
          have : i = 0 := by omega
          subst this
          rw [f1]
          exact ((Array.getElem?_eq_some_iff.1 h0).2).symm
      rw [this]
  · exact x.kept k ⟨hk, hk0⟩
/-- values without memory, seen with other ghosts -/
theorem RV.plainG {G G' : Gh} {w w' : World} {l : List Value} {v : Value} (h : RV G w (.g (l.map .v)) v) : RV G' w' (.g (l.map .v)) v := by
  cases h with | g _ vs hl h =>
    refine .g _ _ hl fun j c v h1 h2 => ?_
    have := h j c v h1 h2
    rw [List.getElem?_map] at h1
    obtain ⟨x, _, rfl⟩ := Option.map_eq_some_iff.1 h1
    cases this with | v _ hx => exact .v _ hx
end Go.Proofs.YtnafgpgbedcdnaaDoor.D.Pm

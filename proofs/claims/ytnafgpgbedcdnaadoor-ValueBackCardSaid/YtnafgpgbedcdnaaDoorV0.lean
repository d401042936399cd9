/- Words and contracts: a plain machine over the model, and what the functions that a law reaches come to, each for every input that its theorem names. -/
import Derived.WalkKit
import Derived.ScopeJumps
import Derived.RangeFuncLeaves
import Derived.LoopNIn
import Derived.OrdersIn
import Derived.Deep.AppendSrc
import Derived.Laws.StructEq
namespace Go.Proofs.YtnafgpgbedcdnaaDoor.D.Pm
set_option linter.unusedVariables false
set_option linter.unusedSimpArgs false
open Go
/-- ghosts: which objects ever were, which names are kept free, where the live ones lie (and how many cells a row has), which blocks no longer change -/
structure Gh where
  U : Nat → Prop
  R : Nat → Prop
  b : Nat → Option (Nat × Nat)
  X : Nat → Prop
  B : Nat
def adr (g o : Nat) : Addr := ⟨g, o, none⟩
theorem adr_add (g o n : Nat) : (adr g o).add n = adr g (o + n) := by unfold Addr.add adr; split <;> simp_all
/-- a step, as far as values in memory go -/
structure Stp (G : Gh) (w : World) (G' : Gh) (w' : World) : Prop where
  U : ∀ id, G.U id → G'.U id
  X : ∀ k, G.X k → G'.X k
  cell : ∀ (a : Addr) (v : Value), G.X a.block → w.cell? a = some v → w'.cell? a = some v
  live : ∀ id, G.U id → G'.b id = none ∨ G'.b id = G.b id
  shape : ∀ id g sz, G.U id → G'.b id = some (g, sz) → ∀ cs e, w.heap[g]? = some (.cells cs e (0, 0)) → ∃ cs', w'.heap[g]? = some (.cells cs' e (0, 0)) ∧ cs'.size = cs.size
/-- a value of which something is known that lasts -/
structure Abs where
  F : Gh → World → Value → Prop
  one : ∀ {G : Gh} {w : World} {v : Value}, F G w v → v.oneCell' = true
  stp : ∀ {G G' : Gh} {w w' : World} {v : Value}, Stp G w G' w' → F G w v → F G' w' v
/-- a cell as the plain machine sees it -/
inductive AC where
  | v (x : Value)
  | sl (sz : Nat) (xs : List (List AC))
  | arr (id off len : Nat)
  | pe (id i j : Nat)
  | ptr (id off : Nat)
  | ep (cs : List AC)
  | fn (f : FuncId) (caps : List AC)
  | yd (l : Nat)
  | ab (F : Abs)
/-- a value -/
inductive AV where
  | c (x : AC)
  | g (cs : List AC)
  | t (vs : List AV)
/-- an object: a variable, or an array of rows -/
inductive Ob where
  | bx (cs : List AC)
  | ar (sz : Nat) (rows : List (List AC))
abbrev Sto := Nat → Option Ob
abbrev Env := List (Nat × AV)
/-- a cell's value in memory -/
inductive RC (G : Gh) (w : World) : AC → Value → Prop
  | v (x : Value) (h : x.oneCell' = true) : RC G w (.v x) x
  | sl (sz : Nat) (xs : List (List AC)) (A : Option Addr) (len cap : Nat) (vs : Nat → Nat → Value) (hl : len = xs.length) (hc : len ≤ cap) (hm : cap ≤ maxLen)
      (hs : ∀ (i : Nat) cs, xs[i]? = some cs → cs.length = sz) (g o : Nat) (ha : 0 < len → A = some (adr g o) ∧ G.X g)
      (hcell : ∀ (i : Nat) cs (j : Nat) c, xs[i]? = some cs → cs[j]? = some c → w.cell? (adr g (o + (i * sz + j))) = some (vs i j))
      (h : ∀ (i : Nat) cs (j : Nat) c, xs[i]? = some cs → cs[j]? = some c → RC G w c (vs i j)) : RC G w (.sl sz xs) (.slice A len cap)
  | arr (id off len : Nat) (A : Option Addr) (cap : Nat) (hn : G.U id) (hc : len ≤ cap) (hm : cap ≤ maxLen)
      (h : ∀ g sz, G.b id = some (g, sz) → ∃ cs e, w.heap[g]? = some (.cells cs e (0, 0)) ∧ (cap = 0 ∨ A = some (adr g (off * sz))) ∧ (off + cap) * sz ≤ cs.size) : RC G w (.arr id off len) (.slice A len cap)
  | ptr (id off : Nat) (A : Addr) (hn : G.U id) (h : ∀ g sz, G.b id = some (g, sz) → A = adr g off) : RC G w (.ptr id off) (.pointer (some A))
  | pe (id i j : Nat) (A : Addr) (hn : G.U id) (h : ∀ g sz, G.b id = some (g, sz) → A = adr g (i * sz + j)) : RC G w (.pe id i j) (.pointer (some A))
  | ep (cs : List AC) (g o : Nat) (vs : Nat → Value) (hX : G.X g) (hcell : ∀ (j : Nat) c, cs[j]? = some c → w.cell? (adr g (o + j)) = some (vs j))
      (h : ∀ (j : Nat) c, cs[j]? = some c → RC G w c (vs j)) : RC G w (.ep cs) (.pointer (some (adr g o)))
  | fn (f : FuncId) (caps : List AC) (vs : Array Value) (hl : vs.size = caps.length) (cv : Nat → Value)
      (hc : ∀ (j : Nat) c, caps[j]? = some c → vs[j]? = some (cv j)) (h : ∀ (j : Nat) c, caps[j]? = some c → RC G w c (cv j)) : RC G w (.fn f caps) (.func (.func f) #[] vs)
  | yd (l : Nat) : RC G w (.yd l) (.func (.yield l) #[] #[])
  | ab (F : Abs) (v : Value) (h : F.F G w v) : RC G w (.ab F) v
theorem RC.one {G : Gh} {w : World} {c : AC} {x : Value} (h : RC G w c x) : x.oneCell' = true := by
  cases h with
  | v _ h => exact h
  | ab F _ h => exact F.one h
  | _ => rfl
/-- what time may do -/
structure ExtS (G : Gh) (w : World) (G' : Gh) (w' : World) : Prop where
  size : w.heap.size ≤ w'.heap.size
  U : ∀ id, G.U id → G'.U id
  X : ∀ k, G.X k → G'.X k
  kept : ∀ k, G.X k → w'.heap[k]? = w.heap[k]?
  live : ∀ id, G.U id → G'.b id = none ∨ G'.b id = G.b id
  shape : ∀ id g sz, G.U id → G'.b id = some (g, sz) → ∀ cs e, w.heap[g]? = some (.cells cs e (0, 0)) → ∃ cs', w'.heap[g]? = some (.cells cs' e (0, 0)) ∧ cs'.size = cs.size
structure Ext (G : Gh) (w : World) (G' : Gh) (w' : World) : Prop extends ExtS G w G' w' where
  R : ∀ id, G.R id → G'.R id
  res : ∀ id, G.R id → G'.U id → G.U id
  out : w'.os = w.os ∧ w'.tape = w.tape ∧ w'.output = w.output
  B : G'.B = G.B
theorem ExtS.refl (G : Gh) (w : World) : ExtS G w G w :=
  ⟨Nat.le_refl _, fun _ h => h, fun _ h => h, fun _ _ => rfl, fun _ _ => .inr rfl, fun _ _ _ _ _ cs e h => ⟨cs, h, rfl⟩⟩
theorem Ext.refl (G : Gh) (w : World) : Ext G w G w := ⟨ExtS.refl G w, fun _ h => h, fun _ _ h => h, ⟨rfl, rfl, rfl⟩, rfl⟩
theorem ExtS.trans {G G1 G2 : Gh} {w w1 w2 : World} (h : ExtS G w G1 w1) (h' : ExtS G1 w1 G2 w2) : ExtS G w G2 w2 where
  size := Nat.le_trans h.size h'.size
  U := fun id hi => h'.U id (h.U id hi)
  X := fun k hk => h'.X k (h.X k hk)
  kept := fun k hk => (h'.kept k (h.X k hk)).trans (h.kept k hk)
  live := fun id hi => by
    rcases h'.live id (h.U id hi) with h1 | h1
    · exact .inl h1
    · rcases h.live id hi with h2 | h2
      · exact .inl (h1.trans h2)
      · exact .inr (h1.trans h2)
  shape := fun id g sz hi hb cs e hc => by
    have h1 : G1.b id = some (g, sz) := by
      rcases h'.live id (h.U id hi) with h1 | h1
      · rw [h1] at hb; cases hb
      · rw [← h1]; exact hb
    obtain ⟨cs1, hc1, hs1⟩ := h.shape id g sz hi h1 cs e hc
    obtain ⟨cs2, hc2, hs2⟩ := h'.shape id g sz (h.U id hi) hb cs1 e hc1
    exact ⟨cs2, hc2, hs2.trans hs1⟩
theorem Ext.trans {G G1 G2 : Gh} {w w1 w2 : World} (h : Ext G w G1 w1) (h' : Ext G1 w1 G2 w2) : Ext G w G2 w2 :=
  ⟨h.toExtS.trans h'.toExtS, fun id hi => h'.R id (h.R id hi), fun id hi hu => h.res id hi (h'.res id (h.R id hi) hu), ⟨h'.out.1.trans h.out.1, h'.out.2.1.trans h.out.2.1, h'.out.2.2.trans h.out.2.2⟩, h'.B.trans h.B⟩
theorem cell_block {w w' : World} {a : Addr} (h : w'.heap[a.block]? = w.heap[a.block]?) : w'.cell? a = w.cell? a := by simp [World.cell?, h]
theorem RC.stp {G G' : Gh} {w w' : World} (x : Stp G w G' w') {c : AC} {v : Value} (h : RC G w c v) : RC G' w' c v := by
  induction h with
  | v x h => exact .v x h
  | sl sz xs A len cap vs hl hc hm hs g o ha hcell h ih =>
    refine .sl sz xs A len cap vs hl hc hm hs g o (fun hp => ⟨(ha hp).1, x.X _ (ha hp).2⟩) (fun i cs j c h1 h2 => ?_) ih
    have hi : i < xs.length := (List.getElem?_eq_some_iff.1 h1).1
    exact x.cell (adr g _) _ (ha (by omega)).2 (hcell i cs j c h1 h2)
  | arr id off len A cap hn hc hm h =>
    refine .arr id off len A cap (x.U _ hn) hc hm (fun g sz hb => ?_)
    rcases x.live id hn with h1 | h1
    · rw [h1] at hb; cases hb
    · obtain ⟨cs, e, h2, h3, h4⟩ := h g sz (h1 ▸ hb)
      obtain ⟨cs', h5, h6⟩ := x.shape id g sz hn hb cs e h2
      exact ⟨cs', e, h5, h3, h6 ▸ h4⟩
  | ptr id off A hn h =>
    refine .ptr id off A (x.U _ hn) (fun g sz hb => ?_)
    rcases x.live id hn with h1 | h1
    · rw [h1] at hb; cases hb
    · exact h g sz (h1 ▸ hb)
  | pe id i j A hn h =>
    refine .pe id i j A (x.U _ hn) (fun g sz hb => ?_)
    rcases x.live id hn with h1 | h1
    · rw [h1] at hb; cases hb
    · exact h g sz (h1 ▸ hb)
  | ep cs g o vs hX hcell h ih => exact .ep cs g o vs (x.X _ hX) (fun j c h1 => x.cell (adr g _) _ hX (hcell j c h1)) ih
  | fn f caps vs hl cv hc h ih => exact .fn f caps vs hl cv hc ih
  | yd l => exact .yd l
  | ab F v h => exact .ab F v (F.stp x h)
theorem ExtS.stp {G G' : Gh} {w w' : World} (x : ExtS G w G' w') : Stp G w G' w' :=
  ⟨x.U, x.X, fun a v hX hc => by rw [cell_block (a := a) (x.kept _ hX)]; exact hc, x.live, x.shape⟩
theorem RC.exts {G G' : Gh} {w w' : World} (x : ExtS G w G' w') {c : AC} {v : Value} (h : RC G w c v) : RC G' w' c v := h.stp x.stp
/-- a method bound to a receiver -/
def bmA (f : FuncId) (c : AC) : Abs where
  F := fun G w v => ∃ x, v = .func (.func f) #[x] #[] ∧ RC G w c x
  one := fun ⟨_, e, _⟩ => by subst e; rfl
  stp := fun x ⟨y, e, h⟩ => ⟨y, e, h.stp x⟩
theorem RC.ext {G G' : Gh} {w w' : World} (x : Ext G w G' w') {c : AC} {v : Value} (h : RC G w c v) : RC G' w' c v := h.exts x.toExtS
/-- a value -/
inductive RV (G : Gh) (w : World) : AV → Value → Prop
  | c (x : AC) (v : Value) (h : RC G w x v) : RV G w (.c x) v
  | g (cs : List AC) (vs : Array Value) (hl : vs.size = cs.length) (h : ∀ (j : Nat) c v, cs[j]? = some c → vs[j]? = some v → RC G w c v) : RV G w (.g cs) (.agg vs)
  | t (xs : List AV) (vs : Array Value) (hl : vs.size = xs.length) (h : ∀ (j : Nat) x v, xs[j]? = some x → vs[j]? = some v → RV G w x v) : RV G w (.t xs) (.tuple vs)
theorem RV.exts {G G' : Gh} {w w' : World} (x : ExtS G w G' w') {c : AV} {v : Value} (h : RV G w c v) : RV G' w' c v := by
  induction h with
  | c y v h => exact .c y v (h.exts x)
  | g cs vs hl h => exact .g cs vs hl (fun j c v h1 h2 => (h j c v h1 h2).exts x)
  | t xs vs hl h ih => exact .t xs vs hl ih
theorem RV.ext {G G' : Gh} {w w' : World} (x : Ext G w G' w') {c : AV} {v : Value} (h : RV G w c v) : RV G' w' c v := h.exts x.toExtS
/-- a name that is free -/
def Gh.Fr (G : Gh) (id : Nat) : Prop := ¬ G.U id ∧ ¬ G.R id
/-- an object's cells -/
def Ob.cells : Ob → List AC
  | .bx cs => cs
  | .ar _ rows => rows.flatten
def Ob.ok : Ob → Nat → Prop
  | .bx _, _ => True
  | .ar sz rows, z => sz = z ∧ ∀ r ∈ rows, r.length = sz
/-- memory and objects -/
structure Inv (G : Gh) (w : World) (st : Sto) : Prop where
  obj : ∀ id o, st id = some o → ∃ g sz cs e, G.U id ∧ G.b id = some (g, sz) ∧ w.heap[g]? = some (.cells cs e (0, 0)) ∧ o.ok sz ∧ o.cells.length ≤ cs.size ∧
    ∀ (j : Nat) c v, o.cells[j]? = some c → cs[j]? = some v → RC G w c v
  lt : ∀ id g sz, G.b id = some (g, sz) → G.U id ∧ g < w.heap.size ∧ ¬ G.X g
  inj : ∀ id id' g sz sz', G.b id = some (g, sz) → G.b id' = some (g, sz') → id = id'
  X : ∀ k, G.X k → k < w.heap.size
  new : ∃ n, ∀ id, G.U id ∨ G.R id → id < n
end Go.Proofs.YtnafgpgbedcdnaaDoor.D.Pm
namespace Go.Proofs.YtnafgpgbedcdnaaDoor.D.Pm
set_option linter.unusedVariables false
set_option linter.unusedSimpArgs false
open Go
/-- what a type is -/
inductive D where
  | b | i (k : IntKind) | s | sl (e : TypeId) | st (fs : List (Nat × TypeId)) | pt (e : TypeId) | fn | mp (k e : TypeId) | ay (n : Nat) (e : TypeId)
structure TI where
  d : D
  size : Nat
  bytes : Nat
  z : List Value
def D.agg : D → Bool
  | .st _ => true
  | .ay _ _ => true
  | _ => false
abbrev TT := TypeId → Option TI
def D.is : D → TypeDesc → Prop
  | .b, d => d = .bool
  | .i k, d => d = .int k
  | .s, d => d = .string
  | .sl e, d => d = .slice e
  | .st fs, d => ∃ a : Array Field, d = .struct a ∧ a.toList.map (fun f => (f.offset, f.type)) = fs
  | .pt e, d => d = .pointer e
  | .fn, d => ∃ a b c, d = .func a b c
  | .mp k e, d => d = .map k e
  | .ay n e, d => d = .array n e
structure TOk (P : Program) (T : TT) : Prop where
  q : ∀ t i fs, T t = some i → i.d = .st fs → P.stoodInHeld t = false ∧ P.eqGuardType P.depth t = false ∧ ∀ a, P.underlying t = some (.struct a) → ∀ f ∈ a.toList, f.name ≠ "_"
  u : ∀ t i, T t = some i → ∃ d, P.underlying t = some d ∧ i.d.is d
  f : ∀ t i, T t = some i → ∃ n, P.info? t = some n ∧ n.size = i.size ∧ n.bytes = i.bytes ∧ (∃ z, n.zero = some z ∧ z.cells.toList = i.z ∧ True) ∧ i.z.length = i.size ∧ ∀ x ∈ i.z, x.oneCell' = true
/-- the slots -/
def look : Env → Nat → Option AV
  | [], _ => none
  | (k, a) :: r, t => if k = t then some a else look r t
def put (N : Nat) (env : Env) (dst : Option Tmp) (r : AV) : Env :=
  match dst with
  | some d => if d < N then (d, r) :: env else env
  | none => env
/-- the marks of loops over functions -/
def Marks (G : Gh) (w : World) : List Deferred → Prop
  | [] => G.B ≤ w.heap.size
  | d :: ds => (∃ D, d = { target := .collected D, args := #[] } ∧ G.B ≤ D ∧ G.X D ∧ w.heap[D]? = some (.deferred (some [])) ∧ ∀ d' ∈ ds, d' ≠ d) ∧ Marks G w ds
theorem Marks.exts {G G' : Gh} {w w' : World} (x : ExtS G w G' w') (hB : G'.B = G.B) : ∀ {l : List Deferred}, Marks G w l → Marks G' w' l
  | [], h => by
    have h : G.B ≤ w.heap.size := h
    show G'.B ≤ w'.heap.size
    rw [hB]; exact Nat.le_trans h x.size
  | d :: ds, ⟨⟨D, h1, h2, h3, h4, h5⟩, h⟩ => ⟨⟨D, h1, hB ▸ h2, x.X _ h3, (x.kept _ h3).trans h4, h5⟩, Marks.exts x hB h⟩
theorem Marks.B {G : Gh} {w : World} : ∀ {l : List Deferred}, Marks G w l → G.B ≤ w.heap.size
  | [], h => h
  | d :: ds, ⟨_, h⟩ => Marks.B h
theorem Marks.lt {G : Gh} {w : World} : ∀ {l : List Deferred}, Marks G w l → ∀ d ∈ l, ∀ k, d = { target := .collected k, args := #[] } → k < w.heap.size
  | d :: ds, ⟨⟨D, h1, h2, h3, h4, h5⟩, h⟩, d', hd, k, hk => by
    rcases List.mem_cons.1 hd with e | hm
    · subst e; rw [h1] at hk; cases hk; exact (Array.getElem?_eq_some_iff.1 h4).1
    · exact Marks.lt h d' hm k hk
structure RE (N : Nat) (G : Gh) (w : World) (env : Env) (a : Act) : Prop where
  size : a.tmps.size = N
  defers : Marks G w a.defers
  at_ : ∀ t r, look env t = some r → ∃ v, a.tmps[t]? = some v ∧ RV G w r v
theorem RE.exts {N : Nat} {G G' : Gh} {w w' : World} (x : ExtS G w G' w') (hB : G'.B = G.B) {env : Env} {a : Act} (h : RE N G w env a) : RE N G' w' env a :=
  ⟨h.size, h.defers.exts x hB, fun t r hl => let ⟨v, h1, h2⟩ := h.at_ t r hl; ⟨v, h1, h2.exts x⟩⟩
theorem RE.ext {N : Nat} {G G' : Gh} {w w' : World} (x : Ext G w G' w') {env : Env} {a : Act} (h : RE N G w env a) : RE N G' w' env a := h.exts x.toExtS x.B
theorem RE.put {N : Nat} {G : Gh} {w : World} {env : Env} {a : Act} (h : RE N G w env a) {r : AV} {v : Value} (hv : RV G w r v) (dst : Option Tmp) : RE N G w (put N env dst r) (a.put dst v) := by
  cases dst with
  | none => exact h
  | some d =>
    refine ⟨by simp [Act.put, h.size], h.defers, fun t r' hl => ?_⟩
    unfold Pm.put at hl
    dsimp only at hl
    by_cases hd : d < N
    · rw [if_pos hd] at hl
      unfold look at hl
      by_cases ht : d = t
      · subst ht
        rw [if_pos rfl] at hl
        cases hl
        refine ⟨v, ?_, hv⟩
        simp [Act.put, h.size, hd]
      · rw [if_neg ht] at hl
        obtain ⟨u, h1, h2⟩ := h.at_ t r' hl
        exact ⟨u, by simp [Act.put, Array.getElem?_setIfInBounds_ne ht, h1], h2⟩
    · rw [if_neg hd] at hl
      obtain ⟨u, h1, h2⟩ := h.at_ t r' hl
      have ht : d ≠ t := fun e => by
        subst e
        have := (Array.getElem?_eq_some_iff.1 h1).1
        rw [h.size] at this
        exact hd this
      exact ⟨u, by simp [Act.put, Array.getElem?_setIfInBounds_ne ht, h1], h2⟩
def cst : Value → Option AV
  | .agg cs => if cs.all (·.oneCell') = true then some (.g (cs.toList.map .v)) else none
  | .tuple vs => if vs.size = 0 then some (.t []) else none
  | .func (.func f) _ _ => none
  | v => some (.c (.v v))
def ev (env : Env) : Operand → Option AV
  | .tmp t => look env t
  | .const v => cst v
  | .func f => some (.c (.fn f []))
  | .global _ => none
theorem RV.one {G : Gh} {w : World} (x : Value) (h : x.oneCell' = true) : RV G w (.c (.v x)) x := .c _ _ (.v x h)
theorem cst_ok {G : Gh} {w : World} {v : Value} {r : AV} (h : cst v = some r) : RV G w r v := by
  cases v with
  | agg cs =>
    simp only [cst] at h
    split at h
    · rename_i ha
      cases h
      refine .g _ _ (by simp) (fun j c v h1 h2 => ?_)
      rw [List.getElem?_map, Array.getElem?_toList, h2] at h1
      cases h1
      exact .v v (by
        rw [Array.all_eq_true_iff_forall_mem] at ha
        exact ha v (Array.mem_of_getElem? h2))
    · cases h
  | tuple vs =>
    simp only [cst] at h
    split at h
    · rename_i h0
      cases h
      exact .t [] vs h0 (fun j x v h1 _ => by simp at h1)
    · cases h
  | func f a b => cases f <;> simp [cst] at h <;> subst h <;> exact RV.one _ rfl
  | _ => simp [cst] at h; subst h; exact RV.one _ rfl
theorem ev_ok {N : Nat} {G : Gh} {w : World} {env : Env} {a : Act} (h : RE N G w env a) {x : Operand} {r : AV} (hx : ev env x = some r) : RV G w r (a.eval x) := by
  cases x with
  | tmp t =>
    obtain ⟨v, h1, h2⟩ := h.at_ t r hx
    have : a.eval (.tmp t) = v := by simp [Act.eval, Array.getD_eq_getD_getElem?, h1]
    rw [this]; exact h2
  | const v => exact cst_ok hx
  | func f =>
    simp [ev] at hx
    subst hx
    exact .c _ _ (.fn f [] #[] rfl (fun _ => undef) (fun j c h => by simp at h) (fun j c h => by simp at h))
  | global g => cases hx
/-- a piece of machine code comes to a value -/
def Runs (P : Program) (G : Gh) (w : World) (s : Sem Value) (K : AV → Sto → Prop) : Prop :=
  ∃ v w' G' r st', s.run P w = .ok v w' ∧ K r st' ∧ Ext G w G' w' ∧ Inv G' w' st' ∧ RV G' w' r v
theorem Runs.pure {P : Program} {G : Gh} {w : World} {s : Sem Value} {K : AV → Sto → Prop} {st : Sto} (hI : Inv G w st) {v : Value} {r : AV} (h : s.run P w = .ok v w) (hk : K r st) (hr : RV G w r v) : Runs P G w s K :=
  ⟨v, w, G, r, st, h, hk, Ext.refl _ _, hI, hr⟩
/-- every function may be called; the frame is of a function, or of a round -/
abbrev fen (ρ : Option Nat) : Fence := { Fence.wide with round := ρ }
theorem room_fen {ρ : Option Nat} (k : Nat) : (fen ρ).room k := fun d h => by cases h
theorem exec_defer {P : Program} {w w' : World} {ev : Operand → Value} {o : Oper} {r : Next} (h : (execOp ev o).run P w = .ok r w') (hr : ∀ d, r ≠ .defer d) : ∀ c, o.op ≠ .defer c := fun c hc => by
  unfold execOp at h
  rw [hc] at h
  simp only [Sem.run_bind] at h
  generalize (resolve ev c o.type).run P w = q at h
  cases q with
  | ok d w2 => simp at h; exact hr d h.1.symm
  | halt x w2 => simp at h
theorem sem_fen {ρ : Option Nat} {P : Program} {w w' : World} {ev : Operand → Value} {o : Oper} {r : Next} (h : (execOp ev o).run P w = .ok r w') (hr : ∀ d, r ≠ .defer d) : (o.semAt (fen ρ).round ev).run P w = .ok r w' := by
  rw [Oper.semAt_eq _ _ _ (exec_defer h hr)]; exact h
theorem wpV {ρ : Option Nat} {P : Program} {w w' : World} {a : Act} {o : Oper} {v : Value} {K : Act → World → Prop} {Q : Exit → Act → World → Prop} (h : (execOp a.eval o).run P w = .ok (.value v) w') (k : K (a.put o.dst v) w') : o.wpIn (fen ρ) 7 P a w K Q :=
  ⟨fun _ _ => trivial, by rw [sem_fen h (fun d e => by cases e)]; exact k⟩
theorem wpK {ρ : Option Nat} {P : Program} {w w' : World} {a : Act} {o : Oper} {K : Act → World → Prop} {Q : Exit → Act → World → Prop} (h : (execOp a.eval o).run P w = .ok .skip w') (k : K (a.put o.dst undef) w') : o.wpIn (fen ρ) 7 P a w K Q :=
  ⟨fun _ _ => trivial, by rw [sem_fen h (fun d e => by cases e)]; exact k⟩
theorem callsIn_fen {ρ : Option Nat} {n : Nat} {P : Program} {f : FuncId} {args : Array Value} {w : World} {R : Ending → World → Prop} : CallsIn (fen ρ) n P f args w R ↔ Calls P f args w R :=
  ⟨fun h cs => let ⟨e, w', fr, r, s, x⟩ := h.2 cs (room_fen _); ⟨e, w', fr, r, comesIn_wide.1 s, x⟩,
   fun h => ⟨trivial, fun cs _ => let ⟨e, w', fr, r, s, x⟩ := h cs; ⟨e, w', fr, r, comesIn_wide.2 s, x⟩⟩⟩
theorem wpE {ρ : Option Nat} {P : Program} {w w' : World} {a : Act} {o : Oper} {f : FuncId} {args : Array Value} {K : Act → World → Prop} {Q : Exit → Act → World → Prop} (h : (execOp a.eval o).run P w = .ok (.enter f args) w') (k : Calls P f args w' fun e w2 => ∃ v, e = .returned v ∧ K (a.put o.dst v) w2) : o.wpIn (fen ρ) 7 P a w K Q :=
  ⟨fun _ _ => trivial, by
    rw [sem_fen h (fun d e => by cases e)]
    rw [Oper.uponIn_enter]
    refine ⟨fun h => (by cases h), CallsIn.mono (callsIn_fen.2 k) ?_⟩
    rintro e w2 ⟨v, rfl, hk⟩
    exact hk⟩
/-- an operation is safe -/
def OpOk (P : Program) (N : Nat) (o : Oper) (env : Env) (st : Sto) (K : Env → Sto → Prop) : Prop :=
  ∀ (ρ : Option Nat) G w a, Inv G w st → RE N G w env a → ∀ Q, o.wpIn (fen ρ) 7 P a w (fun a' w' => ∃ G' env' st', K env' st' ∧ Ext G w G' w' ∧ Inv G' w' st' ∧ RE N G' w' env' a') Q
theorem OpOk.of {P : Program} {N : Nat} {o : Oper} {env : Env} {st : Sto} {K : Env → Sto → Prop}
    (h : ∀ G w a, Inv G w st → RE N G w env a → ∃ v w' G' r st', (execOp a.eval o).run P w = .ok (.value v) w' ∧ K (put N env o.dst r) st' ∧ Ext G w G' w' ∧ Inv G' w' st' ∧ RV G' w' r v) : OpOk P N o env st K := by
  intro ρ G w a hI hE Q
  obtain ⟨v, w', G', r, st', h1, h2, h3, h4, h5⟩ := h G w a hI hE
  exact wpV h1 ⟨G', _, st', h2, h3, h4, (hE.ext h3).put h5 _⟩
theorem OpOk.val {P : Program} {N : Nat} {o : Oper} {env : Env} {st : Sto} {K : Env → Sto → Prop} (s : (Operand → Value) → Sem Value)
    (ho : ∀ ρ, execOp ρ o = (do pure (.value (← s ρ))))
    (h : ∀ G w a, Inv G w st → RE N G w env a → Runs P G w (s a.eval) (fun r st' => K (put N env o.dst r) st')) : OpOk P N o env st K := by
  refine .of fun G w a hI hE => ?_
  obtain ⟨v, w', G', r, st', h1, h2, h3, h4, h5⟩ := h G w a hI hE
  refine ⟨v, w', G', r, st', ?_, h2, h3, h4, h5⟩
  rw [ho]
  simp [h1]
theorem OpOk.mono {P : Program} {N : Nat} {o : Oper} {env : Env} {st : Sto} {K K' : Env → Sto → Prop} (h : OpOk P N o env st K) (hk : ∀ e s, K e s → K' e s) : OpOk P N o env st K' := by
  intro ρ G w a hI hE Q
  refine Oper.wpIn_mono (fun a w ⟨G', e, s, h1, h2⟩ => ⟨G', e, s, hk _ _ h1, h2⟩) (h ρ G w a hI hE Q)
/-! ### moves -/
theorem OpOk.move {P : Program} {N : Nat} {o : Oper} {env : Env} {st : Sto} {K : Env → Sto → Prop} {x : Operand} (ho : o.op = .move x ∨ o.op = .assign x) {r : AV} (hx : ev env x = some r) (hk : K (put N env o.dst r) st) : OpOk P N o env st K :=
  .val (fun ρ => pure (ρ x)) (fun ρ => by rcases ho with h | h <;> (unfold execOp; rw [h]; rfl)) fun G w a hI hE => .pure hI rfl hk (ev_ok hE hx)
/-! ### whole numbers, truths, texts -/
def vI (k : IntKind) (n : Int) : AV := .c (.v (.int k n))
def vB (b : Bool) : AV := .c (.v (.bool b))
def vS (s : ByteArray) : AV := .c (.v (.string s))
/-- what two numbers come to -/
def bI (op : BinOp) (k : IntKind) (a b : Int) : Option AV :=
  match op with
  | .add => some (vI k (k.wrap (a + b)))
  | .sub => some (vI k (k.wrap (a - b)))
  | .mul => some (vI k (k.wrap (a * b)))
  | .eql => some (vB (decide (a = b)))
  | .neq => some (vB (!decide (a = b)))
  | .lss => some (vB (decide (a < b)))
  | .leq => some (vB (decide (a ≤ b)))
  | .gtr => some (vB (decide (b < a)))
  | .geq => some (vB (decide (b ≤ a)))
  | .or => some (vI k (k.wrap (BitVec.ofInt k.bits a ||| BitVec.ofInt k.bits b).toNat))
  | .and => some (vI k (k.wrap (BitVec.ofInt k.bits a &&& BitVec.ofInt k.bits b).toNat))
  | _ => none
def bS (op : BinOp) (a b : ByteArray) : Option AV :=
  match op with
  | .eql => some (vB (decide (a = b)))
  | .neq => some (vB (!decide (a = b)))
  | .lss => some (vB (Op.bytesLess a.toList b.toList))
  | .gtr => some (vB (!(Op.bytesLess a.toList b.toList || decide (a = b))))
  | .leq => some (vB (Op.bytesLess a.toList b.toList || decide (a = b)))
  | .geq => some (vB (!Op.bytesLess a.toList b.toList))
  | _ => none
/-- cells that can be held one against another -/
def eqC : List AC → List AC → Option Bool
  | [], [] => some true
  | .v (.int k a) :: r, .v (.int k' b) :: q => if k = k' then (eqC r q).map (fun z => decide (a = b) && z) else none
  | .v (.bool a) :: r, .v (.bool b) :: q => (eqC r q).map (fun z => decide (a = b) && z)
  | .v (.string a) :: r, .v (.string b) :: q => (eqC r q).map (fun z => decide (a = b) && z)
  | _, _ => none
theorem bytes_beq (a b : ByteArray) : (a.toList == b.toList) = decide (a = b) := by
  by_cases h : a = b
  · subst h; simp
  · rw [decide_eq_false h]
    apply beq_eq_false_iff_ne.2
    intro e
    exact h (by
      have h1 : a.data.toList = b.data.toList := by
        have e1 : ∀ x : ByteArray, x.toList = x.data.toList := fun x => ByteArray.toList_eq x
        rw [← e1 a, ← e1 b, e]
      have h2 : a.data = b.data := Array.toList_inj.1 h1
      cases a; cases b; simp_all)
end Go.Proofs.YtnafgpgbedcdnaaDoor.D.Pm
namespace Go.Proofs.YtnafgpgbedcdnaaDoor.D.Pm
set_option linter.unusedVariables false
set_option linter.unusedSimpArgs false
open Go
/-! ### memory -/
def upd (st : Sto) (id : Nat) (o : Ob) : Sto := fun i => if i = id then some o else st i
def del (st : Sto) (id : Nat) : Sto := fun i => if i = id then none else st i
/-- an object of the store in memory -/
def At (G : Gh) (w : World) (o : Ob) (g sz : Nat) : Prop :=
  ∃ cs e, w.heap[g]? = some (.cells cs e (0, 0)) ∧ o.ok sz ∧ o.cells.length ≤ cs.size ∧ ∀ (j : Nat) c v, o.cells[j]? = some c → cs[j]? = some v → RC G w c v
theorem Inv.get {G : Gh} {w : World} {st : Sto} (h : Inv G w st) {id : Nat} {o : Ob} (ho : st id = some o) : ∃ g sz, G.U id ∧ G.b id = some (g, sz) ∧ At G w o g sz := by
  obtain ⟨g, sz, cs, e, h1, h2, h3⟩ := h.obj id o ho
  exact ⟨g, sz, h1, h2, cs, e, h3⟩
theorem Inv.fresh {G : Gh} {w : World} {st : Sto} (h : Inv G w st) : ∃ id, G.Fr id ∧ st id = none := by
  obtain ⟨n, hn⟩ := h.new
  have h0 : ¬ G.U n := fun hu => absurd (hn n (.inl hu)) (Nat.lt_irrefl n)
  refine ⟨n, ⟨h0, fun hu => absurd (hn n (.inr hu)) (Nat.lt_irrefl n)⟩, ?_⟩
  cases ho : st n with
  | none => rfl
  | some o => obtain ⟨g, sz, h1, _⟩ := h.get ho; exact absurd h1 h0
theorem Inv.unused {G : Gh} {w : World} {st : Sto} (h : Inv G w st) {id : Nat} (hu : ¬ G.U id) : st id = none := by
  cases ho : st id with
  | none => rfl
  | some o => obtain ⟨g, sz, h1, _⟩ := h.get ho; exact absurd h1 hu
/-- the ghosts behind a new object -/
def Gh.add (G : Gh) (id g sz : Nat) : Gh := ⟨fun i => G.U i ∨ i = id, G.R, fun i => if i = id then some (g, sz) else G.b i, G.X, G.B⟩
theorem Ext.heap {G : Gh} {w w1 w' : World} (h : w1.heap = w'.heap) (ho : w'.os = w1.os ∧ w'.tape = w1.tape ∧ w'.output = w1.output) {G0 : Gh} {w0 : World} (x : Ext G0 w0 G w1) : Ext G0 w0 G w' :=
  ⟨⟨h ▸ x.size, x.U, x.X, h ▸ x.kept, x.live, h ▸ x.shape⟩, x.R, x.res, ⟨ho.1.trans x.out.1, ho.2.1.trans x.out.2.1, ho.2.2.trans x.out.2.2⟩, x.B⟩
theorem RC.heap {G : Gh} {w w' : World} (h : w'.heap = w.heap) {c : AC} {v : Value} (hr : RC G w c v) : RC G w' c v :=
  hr.exts ⟨by rw [h]; exact Nat.le_refl _, fun _ h => h, fun _ h => h, fun _ _ => by rw [h], fun _ _ => .inr rfl, fun _ _ _ _ _ cs e hc => ⟨cs, by rw [h]; exact hc, rfl⟩⟩
theorem Inv.heap {G : Gh} {w w' : World} (h : w'.heap = w.heap) {st : Sto} (hI : Inv G w st) : Inv G w' st :=
  ⟨fun id o ho => by
    obtain ⟨g, sz, cs, e, h1, h2, h3, h4, h5, h6⟩ := hI.obj id o ho
    exact ⟨g, sz, cs, e, h1, h2, by rw [h]; exact h3, h4, h5, fun j c v hj hv => (h6 j c v hj hv).heap h⟩,
   fun id g sz hb => by rw [h]; exact hI.lt id g sz hb, hI.inj, fun k hk => by rw [h]; exact hI.X k hk, hI.new⟩
theorem push_old {A : Array Obj} {o : Obj} {k : Nat} (h : k < A.size) : (A.push o)[k]? = A[k]? := by rw [Array.getElem?_push, if_neg (Nat.ne_of_lt h)]
/-- a new object -/
theorem Inv.alloc {G : Gh} {w w' : World} {st : Sto} (hI : Inv G w st) {id : Nat} (hu : G.Fr id) (o : Ob) (sz : Nat) (cs : Array Value) (e : TypeId)
    (hw : w'.heap = w.heap.push (.cells cs e)) (hok : o.ok sz) (hl : o.cells.length ≤ cs.size) (hc : ∀ (j : Nat) c v, o.cells[j]? = some c → cs[j]? = some v → RC G w c v) (hout : w'.os = w.os ∧ w'.tape = w.tape ∧ w'.output = w.output := by exact ⟨rfl, rfl, rfl⟩) :
    Ext G w (G.add id w.heap.size sz) w' ∧ Inv (G.add id w.heap.size sz) w' (upd st id o) := by
  have hx : Ext G w (G.add id w.heap.size sz) w' := by
    refine ⟨⟨by rw [hw]; simp, fun i h => .inl h, fun _ h => h, fun k hk => ?_, fun i hi => ?_, fun i g z hi hb cs' e' hc' => ?_⟩, fun _ h => h, fun i hi h => h.resolve_right (fun e => hu.2 (e ▸ hi)), hout, rfl⟩
    · rw [hw]; exact push_old (hI.X k hk)
    · right
      show (if i = id then _ else _) = _
      rw [if_neg (fun h : i = id => hu.1 (h ▸ hi))]
    · have hlt := (Array.getElem?_eq_some_iff.1 hc').1
      exact ⟨cs', by rw [hw, push_old hlt]; exact hc', rfl⟩
  refine ⟨hx, fun i o' ho => ?_, fun i g z hb => ?_, fun i i' g z z' hb hb' => ?_, fun k hk => ?_, ?_⟩
  · unfold upd at ho
    by_cases hi : i = id
    · rw [if_pos hi] at ho
      cases ho
      refine ⟨w.heap.size, sz, cs, e, .inr hi, by show (if i = id then _ else _) = _; rw [if_pos hi], by rw [hw]; simp, hok, hl, fun j c v h1 h2 => (hc j c v h1 h2).ext hx⟩
    · rw [if_neg hi] at ho
      obtain ⟨g, z, cs', e', h1, h2, h3, h4, h5, h6⟩ := hI.obj i o' ho
      have hlt := (Array.getElem?_eq_some_iff.1 h3).1
      exact ⟨g, z, cs', e', .inl h1, by show (if i = id then _ else _) = _; rw [if_neg hi]; exact h2, by rw [hw, push_old hlt]; exact h3, h4, h5, fun j c v a b => (h6 j c v a b).ext hx⟩
  · change (if i = id then some (w.heap.size, sz) else G.b i) = _ at hb
    by_cases hi : i = id
    · rw [if_pos hi] at hb
      cases hb
      exact ⟨.inr hi, by rw [hw]; simp, fun hX => absurd (hI.X _ hX) (Nat.lt_irrefl _)⟩
    · rw [if_neg hi] at hb
      obtain ⟨h1, h2, h3⟩ := hI.lt i g z hb
      exact ⟨.inl h1, by rw [hw]; simp; omega, h3⟩
  · change (if i = id then some (w.heap.size, sz) else G.b i) = _ at hb
    change (if i' = id then some (w.heap.size, sz) else G.b i') = _ at hb'
    by_cases hi : i = id <;> by_cases hi' : i' = id
    · rw [hi, hi']
    · rw [if_pos hi] at hb; rw [if_neg hi'] at hb'
      cases hb
      exact absurd (hI.lt _ _ _ hb').2.1 (Nat.lt_irrefl _)
    · rw [if_neg hi] at hb; rw [if_pos hi'] at hb'
      cases hb'
      exact absurd (hI.lt _ _ _ hb).2.1 (Nat.lt_irrefl _)
    · rw [if_neg hi] at hb; rw [if_neg hi'] at hb'
      exact hI.inj _ _ _ _ _ hb hb'
  · rw [hw]; simp; have := hI.X k hk; omega
  · obtain ⟨n, hn⟩ := hI.new
    refine ⟨max n (id + 1), fun i hi => ?_⟩
    rcases hi with (h | h) | h
    · have := hn i (.inl h); omega
    · omega
    · have := hn i (.inr h); omega
/-- an object is written -/
theorem Inv.set {G : Gh} {w w' : World} {st : Sto} (hI : Inv G w st) {id g sz : Nat} (hb : G.b id = some (g, sz)) (o : Ob) (cs cs' : Array Value) (e : TypeId)
    (h0 : w.heap[g]? = some (.cells cs e (0, 0))) (hz : w'.heap.size = w.heap.size) (ho : ∀ k, k ≠ g → w'.heap[k]? = w.heap[k]?) (hg : w'.heap[g]? = some (.cells cs' e (0, 0))) (hs : cs'.size = cs.size)
    (hok : o.ok sz) (hl : o.cells.length ≤ cs'.size) (hc : ∀ (j : Nat) c v, o.cells[j]? = some c → cs'[j]? = some v → RC G w c v) (hout : w'.os = w.os ∧ w'.tape = w.tape ∧ w'.output = w.output := by exact ⟨rfl, rfl, rfl⟩) : Ext G w G w' ∧ Inv G w' (upd st id o) := by
  obtain ⟨hU, hlt, hX⟩ := hI.lt id g sz hb
  have hx : Ext G w G w' := by
    refine ⟨⟨by rw [hz]; exact Nat.le_refl _, fun _ h => h, fun _ h => h, fun k hk => ho k (fun h => hX (h ▸ hk)), fun _ _ => .inr rfl, fun i g' z hi hb' c e' hc' => ?_⟩, fun _ h => h, fun _ _ h => h, hout, rfl⟩
    by_cases hgg : g' = g
    · subst hgg
      rw [h0] at hc'
      cases hc'
      exact ⟨cs', hg, hs⟩
    · exact ⟨c, by rw [ho g' hgg]; exact hc', rfl⟩
  refine ⟨hx, fun i o' hoo => ?_, fun i g z hb => by rw [hz]; exact hI.lt i g z hb, hI.inj, fun k hk => by rw [hz]; exact hI.X k hk, hI.new⟩
  unfold upd at hoo
  by_cases hi : i = id
  · rw [if_pos hi] at hoo
    cases hoo
    subst hi
    exact ⟨g, sz, cs', e, hU, hb, hg, hok, hl, fun j c v a b => (hc j c v a b).ext hx⟩
  · rw [if_neg hi] at hoo
    obtain ⟨g', z, c1, e1, h1, h2, h3, h4, h5, h6⟩ := hI.obj i o' hoo
    have hne : g' ≠ g := fun h => hi (hI.inj _ _ _ _ _ (h ▸ h2) hb)
    exact ⟨g', z, c1, e1, h1, h2, by rw [ho g' hne]; exact h3, h4, h5, fun j c v a b => (h6 j c v a b).ext hx⟩
/-- an object gets a new name; the old one is dead -/
def Gh.ren (G : Gh) (id nid g sz : Nat) : Gh := ⟨fun i => G.U i ∨ i = nid, G.R, fun i => if i = nid then some (g, sz) else if i = id then none else G.b i, G.X, G.B⟩
theorem Inv.ren {G : Gh} {w : World} {st : Sto} (hI : Inv G w st) {id nid g sz : Nat} (hb : G.b id = some (g, sz)) (hu : G.Fr nid) {o : Ob} (ho : st id = some o) :
    Ext G w (G.ren id nid g sz) w ∧ Inv (G.ren id nid g sz) w (upd (del st id) nid o) := by
  obtain ⟨hU, hlt, hX⟩ := hI.lt id g sz hb
  have hx : Ext G w (G.ren id nid g sz) w := by
    refine ⟨⟨Nat.le_refl _, fun i h => .inl h, fun _ h => h, fun k hk => rfl, fun i hi => ?_, fun i g' z hi hb' cs e hc => ⟨cs, hc, rfl⟩⟩, fun _ h => h, fun i hi h => h.resolve_right (fun e => hu.2 (e ▸ hi)), ⟨rfl, rfl, rfl⟩, rfl⟩
    show (if i = nid then some (g, sz) else if i = id then none else G.b i) = none ∨ (if i = nid then some (g, sz) else if i = id then none else G.b i) = _
    rw [if_neg (fun h : i = nid => hu.1 (h ▸ hi))]
    by_cases h : i = id
    · rw [if_pos h]; exact .inl rfl
    · rw [if_neg h]; exact .inr rfl
  refine ⟨hx, fun i o' hoo => ?_, fun i g' z hb' => ?_, fun i i' g' z z' h1 h2 => ?_, hI.X, ?_⟩
  · unfold upd del at hoo
    by_cases hi : i = nid
    · rw [if_pos hi] at hoo
      cases hoo
      obtain ⟨g', z, cs, e, h1, h2, h3, h4, h5, h6⟩ := hI.obj id o ho
      rw [hb] at h2
      cases h2
      exact ⟨g, sz, cs, e, .inr hi, by show (if i = nid then _ else _) = _; rw [if_pos hi], h3, h4, h5, fun j c v a b => (h6 j c v a b).ext hx⟩
    · rw [if_neg hi] at hoo
      by_cases hi2 : i = id
      · rw [if_pos hi2] at hoo; cases hoo
      · rw [if_neg hi2] at hoo
        obtain ⟨g', z, cs, e, h1, h2, h3, h4, h5, h6⟩ := hI.obj i o' hoo
        exact ⟨g', z, cs, e, .inl h1, by show (if i = nid then _ else if i = id then _ else _) = _; rw [if_neg hi, if_neg hi2]; exact h2, h3, h4, h5, fun j c v a b => (h6 j c v a b).ext hx⟩
  · change (if i = nid then some (g, sz) else if i = id then none else G.b i) = _ at hb'
    by_cases hi : i = nid
    · rw [if_pos hi] at hb'
      cases hb'
      exact ⟨.inr hi, hlt, hX⟩
    · rw [if_neg hi] at hb'
      by_cases hi2 : i = id
      · rw [if_pos hi2] at hb'; cases hb'
      · rw [if_neg hi2] at hb'
        obtain ⟨a, b, c⟩ := hI.lt i g' z hb'
        exact ⟨.inl a, b, c⟩
  · change (if i = nid then some (g, sz) else if i = id then none else G.b i) = _ at h1
    change (if i' = nid then some (g, sz) else if i' = id then none else G.b i') = _ at h2
    have key : ∀ j g'' z'', (if j = nid then some (g, sz) else if j = id then none else G.b j) = some (g'', z'') → (j = nid ∧ g'' = g) ∨ (j ≠ nid ∧ j ≠ id ∧ G.b j = some (g'', z'')) := by
      intro j g'' z'' h
      by_cases a : j = nid
      · rw [if_pos a] at h; cases h; exact .inl ⟨a, rfl⟩
      · rw [if_neg a] at h
        by_cases b : j = id
        · rw [if_pos b] at h; cases h
        · rw [if_neg b] at h; exact .inr ⟨a, b, h⟩
    rcases key i _ _ h1 with ⟨a, b⟩ | ⟨a, b, c⟩ <;> rcases key i' _ _ h2 with ⟨a', b'⟩ | ⟨a', b', c'⟩
    · rw [a, a']
    · subst b; exact absurd (hI.inj _ _ _ _ _ c' hb) b'
    · subst b'; exact absurd (hI.inj _ _ _ _ _ c hb) b
    · exact hI.inj _ _ _ _ _ c c'
  · obtain ⟨n, hn⟩ := hI.new
    refine ⟨max n (nid + 1), fun i hi => ?_⟩
    rcases hi with (h | h) | h
    · have := hn i (.inl h); omega
    · omega
    · have := hn i (.inr h); omega
/-- fewer objects -/
def Le (st st' : Sto) : Prop := ∀ id o, st id = some o → st' id = some o
theorem Le.refl (st : Sto) : Le st st := fun _ _ h => h
theorem Le.trans {a b c : Sto} (h : Le a b) (h' : Le b c) : Le a c := fun i o ho => h' i o (h i o ho)
theorem Le.upd {st : Sto} {id : Nat} {o : Ob} (h : st id = none) : Le st (upd st id o) := fun i o' ho => by
  unfold Pm.upd
  rw [if_neg (fun e => by rw [e, h] at ho; cases ho)]
  exact ho
theorem Inv.le {G : Gh} {w : World} {st st' : Sto} (h : Le st st') (hI : Inv G w st') : Inv G w st :=
  ⟨fun id o ho => hI.obj id o (h id o ho), hI.lt, hI.inj, hI.X, hI.new⟩
/-! ### blocks of cells stay; others may turn -/
def SC (w w' : World) : Prop := ∀ (k : Nat) (cs : Array Value) (e : TypeId) (f : Nat × Nat), w.heap[k]? = some (Obj.cells cs e f) → w'.heap[k]? = some (Obj.cells cs e f)
theorem SC.refl (w : World) : SC w w := fun _ _ _ _ h => h
theorem SC.trans {a b c : World} (h : SC a b) (h' : SC b c) : SC a c := fun k cs e f x => h' k cs e f (h k cs e f x)
theorem SC.cell {w w' : World} (h : SC w w') {a : Addr} {v : Value} (hc : w.cell? a = some v) : w'.cell? a = some v := by
  unfold World.cell? at hc ⊢
  cases hk : w.heap[a.block]? with
  | none => rw [hk] at hc; cases hc
  | some o =>
    rw [hk] at hc
    cases o with
    | cells cs e f => rw [h _ _ _ _ hk]; exact hc
    | _ => cases hc
theorem SC.stp {G : Gh} {w w' : World} (x : SC w w') : Stp G w G w' :=
  ⟨fun _ h => h, fun _ h => h, fun _ _ _ hc => x.cell hc, fun _ _ => .inr rfl, fun id g sz _ _ cs e hc => ⟨cs, x g cs e _ hc, rfl⟩⟩
theorem RC.sc {G : Gh} {w w' : World} (x : SC w w') {c : AC} {v : Value} (hr : RC G w c v) : RC G w' c v := hr.stp x.stp
theorem RV.sc {G : Gh} {w w' : World} (x : SC w w') {c : AV} {v : Value} (hr : RV G w c v) : RV G w' c v := by
  induction hr with
  | c y v h1 => exact .c y v (h1.sc x)
  | g cs vs hl h1 => exact .g cs vs hl (fun j c v a b => (h1 j c v a b).sc x)
  | t xs vs hl _ ih => exact .t xs vs hl ih
theorem Inv.sc {G : Gh} {w w' : World} {st : Sto} (hI : Inv G w st) (x : SC w w') (hs : w.heap.size ≤ w'.heap.size) : Inv G w' st where
  obj := fun id o ho => by
    obtain ⟨g, sz, cs, e, a, b, c, d, f, k⟩ := hI.obj id o ho
    exact ⟨g, sz, cs, e, a, b, x _ _ _ _ c, d, f, fun j x' v p q => (k j x' v p q).sc x⟩
  lt := fun id g sz hb => by
    obtain ⟨a, b, c⟩ := hI.lt id g sz hb
    exact ⟨a, Nat.lt_of_lt_of_le b hs, c⟩
  inj := hI.inj
  X := fun k hX => Nat.lt_of_lt_of_le (hI.X k hX) hs
  new := hI.new
/-- the ghosts at a function's beginning -/
def Gh.base (G : Gh) (b : Nat) : Gh := ⟨G.U, G.R, G.b, G.X, b⟩
theorem base_exts (G : Gh) (w : World) (b : Nat) : ExtS G w (G.base b) w := ⟨Nat.le_refl _, fun _ h => h, fun _ h => h, fun _ _ => rfl, fun _ _ => .inr rfl, fun _ _ _ _ _ cs e h => ⟨cs, h, rfl⟩⟩
theorem Inv.base {G : Gh} {w : World} {st : Sto} (hI : Inv G w st) (b : Nat) : Inv (G.base b) w st := ⟨fun id o ho => by
    obtain ⟨g, sz, cs, e, h1, h2, h3, h4, h5, h6⟩ := hI.obj id o ho
    exact ⟨g, sz, cs, e, h1, h2, h3, h4, h5, fun j c v a d => (h6 j c v a d).exts (base_exts G w b)⟩, hI.lt, hI.inj, hI.X, hI.new⟩
end Go.Proofs.YtnafgpgbedcdnaaDoor.D.Pm
namespace Go.Proofs.YtnafgpgbedcdnaaDoor.D.Pm
set_option linter.unusedVariables false
set_option linter.unusedSimpArgs false
open Go
variable {P : Program} {T : TT} {G : Gh} {w : World} {st : Sto}
theorem TOk.info (TP : TOk P T) {t : TypeId} {i : TI} (h : T t = some i) : ∃ n, P.info? t = some n ∧ n.size = i.size ∧ n.bytes = i.bytes := by
  obtain ⟨n, h1, h2, h3, _⟩ := TP.f t i h; exact ⟨n, h1, h2, h3⟩
theorem run_size (TP : TOk P T) {t : TypeId} {i : TI} (h : T t = some i) : (sizeOf t).run P w = .ok i.size w := by
  obtain ⟨n, h1, h2, h3⟩ := TP.info h
  simp [sizeOf, typeInfo, h1, h2]
theorem run_agg (TP : TOk P T) {t : TypeId} {i : TI} (h : T t = some i) : (isAgg t).run P w = .ok i.d.agg w := by
  obtain ⟨d, h1, h2⟩ := TP.u t i h
  cases hd : i.d <;> simp only [hd, D.is] at h2
  case st fs => obtain ⟨a, rfl, _⟩ := h2; simp [isAgg, run_underlying h1, D.agg]
  case fn => obtain ⟨a, b, c, rfl⟩ := h2; simp [isAgg, run_underlying h1, D.agg]
  all_goals (subst h2; simp [isAgg, run_underlying h1, D.agg])
theorem und_sl (TP : TOk P T) {t e : TypeId} {i : TI} (h : T t = some i) (hd : i.d = .sl e) : P.underlying t = some (.slice e) := by
  obtain ⟨d, h1, h2⟩ := TP.u t i h
  rw [hd] at h2; rw [h1]; exact congrArg some h2
theorem und_s (TP : TOk P T) {t : TypeId} {i : TI} (h : T t = some i) (hd : i.d = .s) : P.underlying t = some .string := by
  obtain ⟨d, h1, h2⟩ := TP.u t i h
  rw [hd] at h2; rw [h1]; exact congrArg some h2
theorem und_i (TP : TOk P T) {t : TypeId} {i : TI} {k : IntKind} (h : T t = some i) (hd : i.d = .i k) : P.underlying t = some (.int k) := by
  obtain ⟨d, h1, h2⟩ := TP.u t i h
  rw [hd] at h2; rw [h1]; exact congrArg some h2
/-- cells in a row in memory -/
def Lies (G : Gh) (w : World) (g o : Nat) (cs : List AC) : Prop := ∀ (j : Nat) c, cs[j]? = some c → ∃ v, w.cell? (adr g (o + j)) = some v ∧ RC G w c v
theorem Lies.take {g o : Nat} {cs : List AC} (h : Lies G w g o cs) (n : Nat) : Lies G w g o (cs.take n) := fun j c hj => by
  rw [List.getElem?_take] at hj
  split at hj
  · exact h j c hj
  · cases hj
theorem Lies.drop {g o : Nat} {cs : List AC} (h : Lies G w g o cs) (n : Nat) : Lies G w g (o + n) (cs.drop n) := fun j c hj => by
  rw [List.getElem?_drop] at hj
  obtain ⟨v, h1, h2⟩ := h (n + j) c hj
  exact ⟨v, by rw [show o + n + j = o + (n + j) by omega]; exact h1, h2⟩
theorem cell_of {g o : Nat} {cs : Array Value} {e : TypeId} (h : w.heap[g]? = some (.cells cs e (0, 0))) : w.cell? (adr g o) = cs[o]? := by
  unfold World.cell? adr
  simp [h]
theorem At.lies {o : Ob} {g sz : Nat} (h : At G w o g sz) : Lies G w g 0 o.cells := fun j c hj => by
  obtain ⟨cs, e, h1, h2, h3, h4⟩ := h
  have hlt : j < cs.size := Nat.lt_of_lt_of_le (List.getElem?_eq_some_iff.1 hj).1 h3
  refine ⟨cs[j], ?_, h4 j c _ hj (Array.getElem?_eq_getElem hlt)⟩
  rw [cell_of h1, Nat.zero_add, Array.getElem?_eq_getElem hlt]
theorem Lies.vals {g o : Nat} {cs : List AC} (h : Lies G w g o cs) : ∃ vs : List Value, vs.length = cs.length ∧ (∀ (j : Nat) v, vs[j]? = some v → w.cell? ((adr g o).add j) = some v) ∧ (∀ (j : Nat) c v, cs[j]? = some c → vs[j]? = some v → RC G w c v) := by
  induction cs generalizing o with
  | nil => exact ⟨[], rfl, fun j v h => by simp at h, fun j c v h => by simp at h⟩
  | cons c r ih =>
    obtain ⟨v0, h1, h2⟩ := h 0 c rfl
    have hr : Lies G w g (o + 1) r := fun j c hj => by
      obtain ⟨v, a, b⟩ := h (j + 1) c hj
      exact ⟨v, by rw [show o + 1 + j = o + (j + 1) by omega]; exact a, b⟩
    obtain ⟨vs, h3, h4, h5⟩ := ih hr
    refine ⟨v0 :: vs, by simp [h3], fun j v hj => ?_, fun j c v hj hv => ?_⟩
    · cases j with
      | zero => cases hj; exact h1
      | succ j =>
        have := h4 j v hj
        rw [adr_add] at this ⊢
        rw [show o + (j + 1) = o + 1 + j by omega]; exact this
    · cases j with
      | zero => cases hj; cases hv; exact h2
      | succ j => exact h5 j c v hj hv
/-- what a variable's cells are as a value -/
def ldc (T : TT) (t : TypeId) (cs : List AC) : Option AV :=
  match T t with
  | some i => if i.d.agg = true then (if i.size ≤ cs.length then some (.g (cs.take i.size)) else none) else cs.head?.map .c
  | none => none
theorem load_ok (TP : TOk P T) {g o : Nat} {cs : List AC} (h : Lies G w g o cs) {t : TypeId} {r : AV} (hr : ldc T t cs = some r) : ∃ v, (loadVar t (adr g o)).run P w = .ok v w ∧ RV G w r v := by
  unfold ldc at hr
  cases hi : T t with
  | none => rw [hi] at hr; cases hr
  | some i =>
    rw [hi] at hr
    dsimp only at hr
    have ha := run_agg TP (w := w) hi
    have hz := run_size TP (w := w) hi
    by_cases hg : i.d.agg = true
    · rw [if_pos hg] at hr
      by_cases hn : i.size ≤ cs.length
      · rw [if_pos hn] at hr
        cases hr
        obtain ⟨vs, h1, h2, h3⟩ := (h.take i.size).vals
        have hl : vs.length = i.size := by rw [h1, List.length_take]; omega
        have hld := run_loadCells_list (P := P) w (adr g o) vs h2
        rw [hl] at hld
        refine ⟨.agg vs.toArray, ?_, .g _ _ (by simp [h1]) (fun j c v a b => h3 j c v a (by simpa using b))⟩
        simp [loadVar, ha, hg, hz, hld]
      · rw [if_neg hn] at hr; cases hr
    · rw [if_neg hg] at hr
      have hg' : i.d.agg = false := by simpa using hg
      cases cs with
      | nil => cases hr
      | cons c q =>
        cases hr
        obtain ⟨v, h1, h2⟩ := h 0 c rfl
        refine ⟨v, ?_, .c _ _ h2⟩
        have h1' : w.cell? (adr g o) = some v := h1
        simp [loadVar, ha, hg', run_load, h1']
/-- a variable's cells, by its address -/
def rdp (st : Sto) : AC → Option (List AC)
  | .ptr id off => match st id with
    | some (.bx cs) => some (cs.drop off)
    | _ => none
  | .pe id i j => match st id with
    | some (.ar _ rows) => match rows[i]? with
      | some r => some (r.drop j)
      | none => none
    | _ => none
  | .ep cs => some cs
  | _ => none
theorem flat_at {rows : List (List AC)} {sz : Nat} (h : ∀ r ∈ rows, r.length = sz) {i : Nat} {r : List AC} (hi : rows[i]? = some r) {j : Nat} {c : AC} (hj : r[j]? = some c) : rows.flatten[i * sz + j]? = some c := by
  induction rows generalizing i with
  | nil => simp at hi
  | cons q rs ih =>
    have hq : q.length = sz := h q (List.mem_cons_self ..)
    cases i with
    | zero =>
      cases hi
      rw [List.flatten_cons, Nat.zero_mul, Nat.zero_add, List.getElem?_append_left (List.getElem?_eq_some_iff.1 hj).1]
      exact hj
    | succ i =>
      have := ih (fun r hr => h r (List.mem_cons_of_mem _ hr)) (i := i) hi
      rw [List.flatten_cons, List.getElem?_append_right (by rw [hq, Nat.succ_mul]; omega), hq]
      rw [show (i + 1) * sz + j - sz = i * sz + j by rw [Nat.succ_mul]; omega]
      exact this
theorem rdp_ok (hI : Inv G w st) {p : AC} {v : Value} (hp : RC G w p v) {cs : List AC} (h : rdp st p = some cs) : ∃ g o, v = .pointer (some (adr g o)) ∧ Lies G w g o cs := by
  cases hp with
  | ptr id off A hn ha =>
    simp only [rdp] at h
    cases ho : st id with
    | none => rw [ho] at h; cases h
    | some ob =>
      rw [ho] at h
      cases ob with
      | ar sz rows => cases h
      | bx c0 =>
        cases h
        obtain ⟨g, sz, hU, hb, hat⟩ := hI.get ho
        exact ⟨g, off, by rw [ha g sz hb], by have := hat.lies.drop off; rw [Nat.zero_add] at this; exact this⟩
  | pe id i j A hn ha =>
    simp only [rdp] at h
    cases ho : st id with
    | none => rw [ho] at h; cases h
    | some ob =>
      rw [ho] at h
      cases ob with
      | bx c0 => cases h
      | ar sz rows =>
        dsimp only at h
        cases hr : rows[i]? with
        | none => rw [hr] at h; cases h
        | some r =>
          rw [hr] at h
          cases h
          obtain ⟨g, sz', hU, hb, hat⟩ := hI.get ho
          refine ⟨g, i * sz' + j, by rw [ha g sz' hb], ?_⟩
          have hok : sz = sz' ∧ ∀ r ∈ rows, r.length = sz := by obtain ⟨cs, e, _, hok, _⟩ := hat; exact hok
          have hl := hat.lies
          intro k c hk
          rw [List.getElem?_drop] at hk
          have := flat_at hok.2 hr hk
          obtain ⟨v, h1, h2⟩ := hl _ c this
          exact ⟨v, by rw [show i * sz' + j + k = 0 + (i * sz + (j + k)) by rw [hok.1]; omega]; exact h1, h2⟩
  | ep cs0 g o vs hX hcell h2 =>
    cases h
    exact ⟨g, o, rfl, fun j c hj => ⟨vs j, hcell j c hj, h2 j c hj⟩⟩
  | _ => cases h
/-- a load -/
theorem Runs.load (TP : TOk P T) (hI : Inv G w st) {t : TypeId} {p : AC} {v : Value} (hp : RC G w p v) {cs : List AC} (h : rdp st p = some cs) {r : AV} (hr : ldc T t cs = some r) {K : AV → Sto → Prop} (hk : K r st) :
    Runs P G w (Instr.loadAt t v) K := by
  obtain ⟨g, o, rfl, hl⟩ := rdp_ok hI hp h
  obtain ⟨u, h1, h2⟩ := load_ok TP hl hr
  exact .pure hI (by simp [Instr.loadAt, Instr.sureAddr, h1]) hk h2
end Go.Proofs.YtnafgpgbedcdnaaDoor.D.Pm
namespace Go.Proofs.YtnafgpgbedcdnaaDoor.D.Pm
set_option linter.unusedVariables false
set_option linter.unusedSimpArgs false
open Go
def avc : AV → List AC
  | .c x => [x]
  | .g cs => cs
  | .t _ => []
theorem avc_ok {G : Gh} {w : World} {r : AV} {v : Value} (h : RV G w r v) (ht : ∀ l, r ≠ .t l) : v.cells.size = (avc r).length ∧ (∀ (j : Nat) c x, (avc r)[j]? = some c → v.cells.toList[j]? = some x → RC G w c x) ∧ ∀ x ∈ v.cells.toList, x.oneCell' = true := by
  cases h with
  | c x v h =>
    have h1 := h.one
    have hc : v.cells = #[v] := by cases v <;> first | rfl | cases h1
    rw [hc]
    refine ⟨rfl, fun j c x' hj hx => ?_, fun x hx => ?_⟩
    · cases j with
      | zero => cases hj; cases hx; exact h
      | succ j => simp [avc] at hj
    · simp at hx; subst hx; exact h1
  | g cs vs hl h =>
    refine ⟨hl, fun j c x hj hx => h j c x hj (by simpa [Value.cells] using hx), fun x hx => ?_⟩
    obtain ⟨j, hj⟩ := List.getElem?_of_mem hx
    have hj' : vs[j]? = some x := by simpa [Value.cells] using hj
    have hlt : j < cs.length := by rw [← hl]; exact (Array.getElem?_eq_some_iff.1 hj').1
    exact (h j _ x (List.getElem?_eq_getElem hlt) hj').one
  | t xs vs hl h => exact absurd rfl (ht xs)
def putAt {α : Type} (cs : List α) (p : Nat) (vs : List α) : List α := cs.take p ++ vs ++ cs.drop (p + vs.length)
theorem putAt_length {α : Type} (cs : List α) (p : Nat) (vs : List α) (h : p + vs.length ≤ cs.length) : (putAt cs p vs).length = cs.length := by
  simp [putAt]; omega
theorem putAt_get {α : Type} (cs : List α) (p : Nat) (vs : List α) (h : p + vs.length ≤ cs.length) (j : Nat) : (putAt cs p vs)[j]? = if j < p then cs[j]? else if j < p + vs.length then vs[j - p]? else cs[j]? := by
  unfold putAt
  by_cases h1 : j < p
  · rw [if_pos h1, List.append_assoc, List.getElem?_append_left (by rw [List.length_take]; omega), List.getElem?_take_of_lt h1]
  · rw [if_neg h1]
    by_cases h2 : j < p + vs.length
    · rw [if_pos h2, List.append_assoc, List.getElem?_append_right (by rw [List.length_take]; omega), List.getElem?_append_left (by rw [List.length_take]; omega), List.length_take, Nat.min_eq_left (by omega)]
    · rw [if_neg h2, List.getElem?_append_right (by rw [List.length_append, List.length_take]; omega), List.getElem?_drop, List.length_append, List.length_take, Nat.min_eq_left (by omega)]
      congr 1; omega
theorem flatten_set {sz : Nat} {r r' : List AC} {i : Nat} : ∀ {rows : List (List AC)}, (∀ q ∈ rows, q.length = sz) → rows[i]? = some r → r'.length = sz → ∀ k, (rows.set i r').flatten[k]? = if i * sz ≤ k ∧ k < i * sz + sz then r'[k - i * sz]? else rows.flatten[k]?
  | rows, h, hi, hr, k => by
    induction rows generalizing i k with
    | nil => simp at hi
    | cons q rs ih =>
      have hq : q.length = sz := h q (List.mem_cons_self ..)
      cases i with
      | zero =>
        rw [List.set_cons_zero, List.flatten_cons, List.flatten_cons]
        by_cases hk : k < sz
        · rw [if_pos ⟨by omega, by omega⟩, List.getElem?_append_left (by omega)]; congr 1; omega
        · rw [if_neg (by omega), List.getElem?_append_right (by omega), List.getElem?_append_right (by omega), hr, hq]
      | succ i =>
        rw [List.set_cons_succ, List.flatten_cons, List.flatten_cons]
        by_cases hk : k < sz
        · rw [if_neg (by rw [Nat.succ_mul]; omega), List.getElem?_append_left (by omega), List.getElem?_append_left (by omega)]
        · rw [List.getElem?_append_right (by omega), List.getElem?_append_right (by omega), hq, ih (fun q hq => h q (List.mem_cons_of_mem _ hq)) (by simpa using hi) (k - sz)]
          by_cases hc : i * sz ≤ k - sz ∧ k - sz < i * sz + sz
          · rw [if_pos hc, if_pos (by rw [Nat.succ_mul]; omega)]; congr 1; rw [Nat.succ_mul]; omega
          · rw [if_neg hc, if_neg (by rw [Nat.succ_mul]; omega)]
/-- a store -/
def wrp (st : Sto) (p : AC) (vs : List AC) : Option (Nat × Ob) :=
  match p with
  | .ptr id off => match st id with
    | some (.bx cs) => if off + vs.length ≤ cs.length then some (id, .bx (putAt cs off vs)) else none
    | _ => none
  | .pe id i j => match st id with
    | some (.ar sz rows) => match rows[i]? with
      | some r => if j + vs.length ≤ r.length then some (id, .ar sz (rows.set i (putAt r j vs))) else none
      | none => none
    | _ => none
  | _ => none
theorem wrp_ok {G : Gh} {w : World} {st : Sto} (hI : Inv G w st) {p : AC} {v : Value} (hp : RC G w p v) {vs : List AC} {id : Nat} {o' : Ob} (h : wrp st p vs = some (id, o')) :
    ∃ g o sz ob, v = .pointer (some (adr g o)) ∧ G.b id = some (g, sz) ∧ st id = some ob ∧ o'.ok sz ∧ o + vs.length ≤ ob.cells.length ∧ o'.cells.length = ob.cells.length ∧ ∀ (j : Nat), o'.cells[j]? = (putAt ob.cells o vs)[j]? := by
  cases hp with
  | ptr i off A hn ha =>
    simp only [wrp] at h
    cases ho : st i with
    | none => rw [ho] at h; cases h
    | some ob =>
      rw [ho] at h
      cases ob with
      | ar sz rows => cases h
      | bx cs =>
        dsimp only at h
        split at h
        · rename_i hl
          cases h
          obtain ⟨g, sz, hU, hb, hat⟩ := hI.get ho
          exact ⟨g, off, sz, _, by rw [ha g sz hb], hb, ho, trivial, hl, putAt_length _ _ _ hl, fun j => rfl⟩
        · cases h
  | pe i a j A hn ha =>
    simp only [wrp] at h
    cases ho : st i with
    | none => rw [ho] at h; cases h
    | some ob =>
      rw [ho] at h
      cases ob with
      | bx cs => cases h
      | ar sz rows =>
        dsimp only at h
        cases hr : rows[a]? with
        | none => rw [hr] at h; cases h
        | some r =>
          rw [hr] at h
          dsimp only at h
          split at h
          · rename_i hl
            cases h
            obtain ⟨g, sz', hU, hb, hat⟩ := hI.get ho
            obtain ⟨cs, e, _, hok, _⟩ := hat
            obtain ⟨rfl, hrows⟩ := hok
            have hrl : r.length = sz := hrows r (List.mem_of_getElem? hr)
            have hpl : (putAt r j vs).length = sz := by rw [putAt_length _ _ _ hl, hrl]
            have hrows' : ∀ q ∈ rows.set a (putAt r j vs), q.length = sz := fun q hq => by
              rcases List.mem_or_eq_of_mem_set hq with h | h
              · exact hrows q h
              · rw [h]; exact hpl
            have hlen : ∀ l : List (List AC), (∀ q ∈ l, q.length = sz) → l.flatten.length = l.length * sz := fun l => by
              induction l with
              | nil => intro _; simp
              | cons q l ih => intro h; rw [List.flatten_cons, List.length_append, ih (fun q hq => h q (List.mem_cons_of_mem _ hq)), h q (List.mem_cons_self ..), List.length_cons, Nat.succ_mul]; omega
            have ha' : a < rows.length := (List.getElem?_eq_some_iff.1 hr).1
            have hfl : a * sz + sz ≤ rows.flatten.length := by
              rw [hlen rows hrows]
              calc a * sz + sz = (a + 1) * sz := (Nat.succ_mul a sz).symm
                _ ≤ rows.length * sz := Nat.mul_le_mul_right _ ha'
            refine ⟨g, a * sz + j, sz, _, by rw [ha g sz hb], hb, ho, ⟨rfl, hrows'⟩, ?_, ?_, fun k => ?_⟩
            · show a * sz + j + vs.length ≤ rows.flatten.length; omega
            · show (rows.set a (putAt r j vs)).flatten.length = rows.flatten.length
              rw [hlen _ hrows', hlen _ hrows, List.length_set]
            · show (rows.set a (putAt r j vs)).flatten[k]? = (putAt rows.flatten (a * sz + j) vs)[k]?
              rw [flatten_set hrows hr hpl k, putAt_get rows.flatten (a * sz + j) vs (by omega) k]
              by_cases h1 : a * sz ≤ k ∧ k < a * sz + sz
              · rw [if_pos h1, putAt_get r j vs hl]
                have hfk : rows.flatten[k]? = r[k - a * sz]? := by
                  have hk2 : k - a * sz < r.length := by omega
                  rw [List.getElem?_eq_getElem hk2]
                  have := flat_at hrows hr (List.getElem?_eq_getElem hk2)
                  rwa [show a * sz + (k - a * sz) = k by omega] at this
                clear hfl
                generalize a * sz = q at h1 hfk ⊢
                by_cases h2 : k - q < j
                · rw [if_pos h2, if_pos (show k < q + j by omega), hfk]
                · rw [if_neg h2, if_neg (show ¬ k < q + j by omega)]
                  by_cases h3 : k - q < j + vs.length
                  · rw [if_pos h3, if_pos (show k < q + j + vs.length by omega)]; congr 1; omega
                  · rw [if_neg h3, if_neg (show ¬ k < q + j + vs.length by omega), hfk]
              · rw [if_neg h1]
                generalize a * sz = q at h1 ⊢
                by_cases h2 : k < q + j
                · rw [if_pos h2]
                · rw [if_neg h2, if_neg (by omega)]
          · cases h
  | _ => cases h
theorem store_ok {P : Program} {T : TT} (TP : TOk P T) {G : Gh} {w : World} {st : Sto} (hI : Inv G w st) {t : TypeId} {i : TI} (hi : T t = some i) {p : AC} {v x : Value} (hp : RC G w p v) {r : AV} (hr : RV G w r x) (ht : ∀ l, r ≠ .t l)
    (hz : (avc r).length = i.size) {id : Nat} {o' : Ob} (h : wrp st p (avc r) = some (id, o')) : ∃ w', (Instr.storeAt t v x).run P w = .ok () w' ∧ Ext G w G w' ∧ Inv G w' (upd st id o') := by
  obtain ⟨h1, h2, h3⟩ := avc_ok hr ht
  obtain ⟨g, o, sz, ob, rfl, hb, ho, hok, hle, hlen, hget⟩ := wrp_ok hI hp h
  obtain ⟨g', sz', hU, hb', cs, e, hw, hok', hcl, hrel⟩ := hI.get ho
  rw [hb] at hb'
  cases hb'
  have hvl : x.cells.toList.length = (avc r).length := by simpa using h1
  have hst := run_storeCells_at (P := P) g o e x.cells.toList 0 cs w hw (by rw [hvl]; omega) h3
  have hx := hI.set hb o' cs _ e hw (size_setRow w g _) (fun k hk => setRow_other w g k _ hk) (setRow_heap w g cs _ e _ hw) (by simp only [List.size_toArray]; simp; simp at hvl; omega) hok
    (by rw [hlen]; simp only [List.size_toArray]; simp; simp at hvl; omega) (fun j c u hj hu => ?_) (w' := w.setRow g (cs.toList.take (o + 0) ++ x.cells.toList ++ cs.toList.drop (o + 0 + x.cells.toList.length)).toArray)
  · refine ⟨_, ?_, hx⟩
    have hsz := run_size TP (w := w) hi
    have hne : ¬ x.cells.size ≠ i.size := by rw [h1, hz]; simp
    simp [Instr.storeAt, Instr.sureAddr, storeVar, hsz, hne, adr, hst]
  · rw [hget] at hj
    rw [putAt_get _ _ _ hle] at hj
    have hu' : (putAt cs.toList o x.cells.toList)[j]? = some u := by simpa [putAt] using hu
    rw [putAt_get _ _ _ (by rw [hvl]; simp; omega)] at hu'
    by_cases a : j < o
    · rw [if_pos a] at hj hu'
      exact hrel j c u hj (by simpa using hu')
    · rw [if_neg a] at hj hu'
      by_cases b : j < o + (avc r).length
      · rw [if_pos b] at hj
        rw [if_pos (by rw [hvl]; exact b)] at hu'
        exact h2 _ c u hj hu'
      · rw [if_neg b] at hj
        rw [if_neg (by rw [hvl]; exact b)] at hu'
        exact hrel j c u hj (by simpa using hu')
/-- a new variable -/
theorem Runs.boxAt {P : Program} {G : Gh} {w : World} {st : Sto} (hI : Inv G w st) {t : TypeId} {r : AV} {x : Value} (hr : RV G w r x) (ht : ∀ l, r ≠ .t l) (id : Nat) (hu : G.Fr id) :
    ∃ v w' sz, (Instr.box t x).run P w = .ok v w' ∧ Ext G w (G.add id w.heap.size sz) w' ∧ Inv (G.add id w.heap.size sz) w' (upd st id (.bx (avc r))) ∧ RV (G.add id w.heap.size sz) w' (.c (.ptr id 0)) v := by
  obtain ⟨h1, h2, h3⟩ := avc_ok hr ht
  obtain ⟨hx, hI'⟩ := hI.alloc (w' := w.alloc (.cells x.cells t)) hu (.bx (avc r)) 0 x.cells t rfl trivial (Nat.le_of_eq h1.symm) (fun j c v hj hv => h2 j c v hj (by simpa using hv))
  refine ⟨_, _, _, ?_, hx, hI', .c _ _ (.ptr id 0 (adr w.heap.size 0) (.inr rfl) (fun g sz hb => ?_))⟩
  · simp [Instr.box, newVar, newRow, adr]
  · change (if id = id then _ else _) = _ at hb
    rw [if_pos rfl] at hb
    cases hb
    rfl
theorem Runs.box {P : Program} {G : Gh} {w : World} {st : Sto} (hI : Inv G w st) {t : TypeId} {r : AV} {x : Value} (hr : RV G w r x) (ht : ∀ l, r ≠ .t l) {K : AV → Sto → Prop}
    (hk : ∀ id, st id = none → K (.c (.ptr id 0)) (upd st id (.bx (avc r)))) : Runs P G w (Instr.box t x) K := by
  obtain ⟨id, hu, hn⟩ := hI.fresh
  obtain ⟨v, w', sz, h1, h2, h3, h4⟩ := Runs.boxAt (P := P) (t := t) hI hr ht id hu
  exact ⟨v, w', _, _, _, h1, hk id hn, h2, h3, h4⟩
theorem zero_ok {P : Program} {T : TT} (TP : TOk P T) {G : Gh} {w : World} {t : TypeId} {i : TI} (hi : T t = some i) : ∃ z, (zeroValue t).run P w = .ok z w ∧ z.cells.toList = i.z ∧ i.z.length = i.size ∧ (∀ x ∈ i.z, x.oneCell' = true) ∧ ∀ (j : Nat) c x, (i.z.map AC.v)[j]? = some c → z.cells.toList[j]? = some x → RC G w c x := by
  obtain ⟨n, h1, h2, h3, ⟨z, hz, hzc, _⟩, hl, ho⟩ := TP.f t i hi
  refine ⟨z, by simp [zeroValue, typeInfo, h1, hz], hzc, hl, ho, fun j c x hj hx => ?_⟩
  rw [hzc] at hx
  rw [List.getElem?_map, hx] at hj
  cases hj
  exact .v x (ho x (List.mem_of_getElem? hx))
theorem Runs.allocAt {P : Program} {T : TT} (TP : TOk P T) {G : Gh} {w : World} {st : Sto} (hI : Inv G w st) {t : TypeId} {i : TI} (hi : T t = some i) (id : Nat) (hu : G.Fr id) :
    ∃ v w' sz, (Instr.alloc t true (.tuple #[])).run P w = .ok v w' ∧ Ext G w (G.add id w.heap.size sz) w' ∧ Inv (G.add id w.heap.size sz) w' (upd st id (.bx (i.z.map .v))) ∧ RV (G.add id w.heap.size sz) w' (.c (.ptr id 0)) v := by
  obtain ⟨z, hz, hzc, hl, ho, hrel⟩ := zero_ok TP (G := G) (w := w) hi
  obtain ⟨hx, hI'⟩ := hI.alloc (w' := w.alloc (.cells z.cells t)) hu (.bx (i.z.map .v)) 0 z.cells t rfl trivial (by show (i.z.map AC.v).length ≤ _; rw [List.length_map, ← hzc]; simp) (fun j c v hj hv => hrel j c v hj (by simpa using hv))
  refine ⟨_, _, _, ?_, hx, hI', .c _ _ (.ptr id 0 (adr w.heap.size 0) (.inr rfl) (fun g sz hb => ?_))⟩
  · simp [Instr.alloc, hz, newVar, newRow, adr]
  · change (if id = id then _ else _) = _ at hb
    rw [if_pos rfl] at hb
    cases hb
    rfl
theorem Runs.alloc {P : Program} {T : TT} (TP : TOk P T) {G : Gh} {w : World} {st : Sto} (hI : Inv G w st) {t : TypeId} {i : TI} (hi : T t = some i) {K : AV → Sto → Prop}
    (hk : ∀ id, st id = none → K (.c (.ptr id 0)) (upd st id (.bx (i.z.map .v)))) : Runs P G w (Instr.alloc t true (.tuple #[])) K := by
  obtain ⟨id, hu, hn⟩ := hI.fresh
  obtain ⟨v, w', sz, h1, h2, h3, h4⟩ := Runs.allocAt TP hI hi id hu
  exact ⟨v, w', _, _, _, h1, hk id hn, h2, h3, h4⟩
end Go.Proofs.YtnafgpgbedcdnaaDoor.D.Pm
namespace Go.Proofs.YtnafgpgbedcdnaaDoor.D.Pm
set_option linter.unusedVariables false
set_option linter.unusedSimpArgs false
open Go
theorem elem_of {P : Program} {t e : TypeId} (h : P.underlying t = some (.slice e)) : P.elem t = e := by simp [Program.elem, h]
theorem und_el {P : Program} {t e : TypeId} (h : P.underlying t = some (.slice e)) : P.underlying t = some (.slice (P.elem t)) := by rw [elem_of h]; exact h
/-- a field's address -/
def fdp (p : AC) (off : Nat) : Option AC :=
  match p with
  | .ptr id o => some (.ptr id (o + off))
  | .pe id i j => some (.pe id i (j + off))
  | .ep cs => some (.ep (cs.drop off))
  | _ => none
theorem fdp_ok {G : Gh} {w : World} {p q : AC} {v : Value} (hp : RC G w p v) {off : Nat} (h : fdp p off = some q) : ∃ a, v = .pointer (some a) ∧ RC G w q (.pointer (some (a.add off))) := by
  cases hp with
  | ptr id o A hn ha => cases h; exact ⟨A, rfl, .ptr _ _ _ hn (fun g sz hb => by rw [ha g sz hb, adr_add])⟩
  | pe id i j A hn ha => cases h; exact ⟨A, rfl, .pe _ _ _ _ hn (fun g sz hb => by rw [ha g sz hb, adr_add, Nat.add_assoc])⟩
  | ep cs g o vs hX hcell hh =>
    cases h
    refine ⟨adr g o, rfl, ?_⟩
    rw [adr_add]
    refine .ep _ g (o + off) (fun j => vs (off + j)) hX (fun j c hj => ?_) (fun j c hj => ?_)
    · rw [List.getElem?_drop] at hj
      rw [Nat.add_assoc]; exact hcell _ c hj
    · rw [List.getElem?_drop] at hj; exact hh _ c hj
  | _ => cases h
theorem Runs.field {P : Program} {T : TT} (TP : TOk P T) {G : Gh} {w : World} {st : Sto} (hI : Inv G w st) {t : TypeId} {i : TI} (hi : T t = some i) {fs : List (Nat × TypeId)} (hd : i.d = .st fs) {n : Nat} {off : Nat} {ft : TypeId} (hf : fs[n]? = some (off, ft))
    {j : TI} (hj : T ft = some j) (hz : j.size ≠ 0) {p q : AC} {v : Value} (hp : RC G w p v) (hq : fdp p off = some q) {K : AV → Sto → Prop} (hk : K (.c q) st) : Runs P G w (Instr.fieldAt t v n) K := by
  obtain ⟨a, rfl, h2⟩ := fdp_ok hp hq
  obtain ⟨d, h3, h4⟩ := TP.u t i hi
  rw [hd] at h4
  obtain ⟨arr, rfl, h5⟩ := h4
  rw [← h5, List.getElem?_map] at hf
  obtain ⟨f, hf1, hf2⟩ := Option.map_eq_some_iff.1 hf
  have hf3 : arr[n]? = some f := by simpa using hf1
  cases hf2
  have hsz := run_size TP (w := w) hj
  refine .pure hI ?_ hk (.c _ _ h2)
  simp [Instr.fieldAt, run_underlying h3, hf3, Instr.sureAddr, fieldPlace, hsz, hz]
/-- an element's address -/
def ixp (st : Sto) (sz : Nat) (x : AC) (i : Int) (K : AC → Prop) : Prop :=
  match x with
  | .sl z xs => z = sz ∧ 0 ≤ i ∧ i < xs.length ∧ ∃ r, xs[i.toNat]? = some r ∧ K (.ep r)
  | .arr id off len => 0 ≤ i ∧ i < len ∧ (∃ z rows, st id = some (.ar z rows) ∧ z = sz) ∧ K (.pe id (off + i.toNat) 0)
  | _ => False
theorem Runs.index {P : Program} {T : TT} (TP : TOk P T) {G : Gh} {w : World} {st : Sto} (hI : Inv G w st) {t e : TypeId} {i j : TI} (hi : T t = some i) (hd : i.d = .sl e) (hj : T e = some j) {x : AC} {v : Value} (hx : RC G w x v) {k : IntKind} {n : Int}
    {K : AV → Sto → Prop} (h : ixp st j.size x n (fun p => K (.c p) st)) : Runs P G w (Instr.indexAt t v (.int k n)) K := by
  have hu := und_sl TP hi hd
  have hsz := run_size TP (w := w) hj
  cases hx with
  | sl z xs A len cap vs hl hc hm hs g o ha hcell hh =>
    obtain ⟨rfl, h0, h1, r, hr, hk⟩ := h
    obtain ⟨rfl, hX⟩ := ha (by omega)
    refine .pure hI (v := .pointer (some (adr g (o + n.toNat * j.size)))) ?_ hk (.c _ _ (.ep r g _ (fun q => vs n.toNat q) hX (fun q c hq => ?_) (fun q c hq => hh _ _ q c hr hq)))
    · simp only [run_indexAt_slice w t (adr g o) len cap k n (und_el hu)]
      rw [if_pos ⟨h0, by omega⟩, elem_of hu, hsz]
      simp [adr_add]
    · rw [Nat.add_assoc]; exact hcell _ _ q c hr hq
  | arr id off len A cap hn hc hm ha =>
    obtain ⟨h0, h1, ⟨z, rows, hst, rfl⟩, hk⟩ := h
    obtain ⟨g, sz, hU, hb, cs, e', hw, ⟨hz, hrows⟩, _⟩ := hI.get hst
    obtain ⟨cs', e'', _, hA, _⟩ := ha g sz hb
    rcases hA with h2 | rfl
    · omega
    · refine .pure hI (v := .pointer (some (adr g ((off + n.toNat) * sz)))) ?_ hk (.c _ _ (.pe id _ _ _ hn (fun g' sz' hb' => ?_)))
      · simp only [run_indexAt_slice w t (adr g (off * sz)) len cap k n (und_el hu)]
        rw [if_pos ⟨h0, by omega⟩, elem_of hu, hsz]
        simp [adr_add, Nat.add_mul, hz]
      · rw [hb] at hb'
        cases hb'
        simp
  | _ => exact h.elim
/-- a byte of a text -/
def by_ (s : ByteArray) (i : Int) : Int := if h : i.toNat < s.size then ((s[i.toNat]'h).toNat : Int) else 0
theorem Runs.byte {P : Program} {T : TT} (TP : TOk P T) {G : Gh} {w : World} {st : Sto} (hI : Inv G w st) {t : TypeId} {i : TI} (hi : T t = some i) (hd : i.d = .s) {s : ByteArray} {k : IntKind} {n : Int} (h0 : 0 ≤ n) (h1 : n < s.size)
    {K : AV → Sto → Prop} (hk : K (vI .u8 (by_ s n)) st) : Runs P G w (Instr.index t (.string s) (.int k n)) K := by
  have hlt : n.toNat < s.size := by omega
  refine .pure hI (v := .int .u8 (by_ s n)) ?_ hk (RV.one _ rfl)
  rw [run_index_string w t s k n (und_s TP hi hd), dif_pos ⟨h0, h1⟩]
  unfold by_
  rw [dif_pos hlt]
/-- a part of a list -/
def cutp (x : AC) (l h : Nat) : Option AC :=
  match x with
  | .sl z xs => some (.sl z ((xs.take h).drop l))
  | .arr id off len => some (.arr id (off + l) (h - l))
  | _ => none
def lenp : AC → Option Nat
  | .sl _ xs => some xs.length
  | .arr _ _ len => some len
  | .v (.slice none n 0) => some n
  | .v (.string s) => some s.size
  | _ => none
theorem cutp_ok {P : Program} {G : Gh} {w : World} {st : Sto} (hI : Inv G w st) {x y : AC} {v : Value} (hx : RC G w x v) {l h n : Nat} (hn : lenp x = some n) (h1 : l ≤ h) (h2 : h ≤ n) (hy : cutp x l h = some y) (sz : Nat)
    (hz : match x with | .sl z _ => z = sz | .arr id _ _ => ∃ z rows, st id = some (.ar z rows) ∧ z = sz | _ => False) : ∃ A len cap, v = .slice A len cap ∧ len = n ∧ len ≤ cap ∧ RC G w y (sliced A l h cap sz) := by
  cases hx with
  | sl z xs A len cap vs hl hc hm hs g o ha hcell hh =>
    cases hn
    cases hy
    have hz' : z = sz := hz
    subst hz'
    have hle : ((xs.take h).drop l).length = h - l := by rw [List.length_drop, List.length_take]; omega
    have hg : ∀ (i : Nat) cs, ((xs.take h).drop l)[i]? = some cs → xs[l + i]? = some cs := fun i cs hi => by
      rw [List.getElem?_drop, List.getElem?_take] at hi
      split at hi
      · exact hi
      · cases hi
    refine ⟨A, len, cap, rfl, hl, hc, .sl z _ _ _ _ (fun i j => vs (l + i) j) hle.symm (by omega) (by simp only [maxLen] at hm ⊢; omega) (fun i cs hi => hs _ cs (hg i cs hi)) g (o + l * z) (fun hp => ?_) (fun i cs j c hi hj => ?_) (fun i cs j c hi hj => hh _ cs j c (hg i cs hi) hj)⟩
    · obtain ⟨rfl, hX⟩ := ha (by omega)
      refine ⟨?_, hX⟩
      rw [if_neg (by omega)]
      simp [adr_add]
    · have := hcell _ cs j c (hg i cs hi) hj
      rw [show o + l * z + (i * z + j) = o + ((l + i) * z + j) by rw [Nat.add_mul]; omega]
      exact this
  | arr id off len A cap hu hc hm ha =>
    cases hn
    cases hy
    obtain ⟨z, rows, hst, rfl⟩ := hz
    obtain ⟨g0, sz0, hU, hb0, cs0, e0, hw0, ⟨hz0, hrows0⟩, _⟩ := hI.get hst
    refine ⟨A, n, cap, rfl, rfl, hc, .arr id _ _ _ _ hu (by omega) (by simp only [maxLen] at hm ⊢; omega) (fun g sz hb => ?_)⟩
    obtain ⟨cs, e, h3, h4, h5⟩ := ha g sz hb
    have hzz : z = sz := by rw [hb0] at hb; cases hb; exact hz0
    refine ⟨cs, e, h3, ?_, by rw [show off + l + (cap - l) = off + cap by omega]; exact h5⟩
    by_cases hcl : cap = l
    · exact .inl (by omega)
    · rw [if_neg hcl]
      rcases h4 with h4 | rfl
      · omega
      · right; simp [adr_add, Nat.add_mul, hzz]
  | _ => cases hy
end Go.Proofs.YtnafgpgbedcdnaaDoor.D.Pm
namespace Go.Proofs.YtnafgpgbedcdnaaDoor.D.Pm
set_option linter.unusedVariables false
set_option linter.unusedSimpArgs false
open Go
theorem flat_len {sz : Nat} : ∀ {l : List (List AC)}, (∀ q ∈ l, q.length = sz) → l.flatten.length = l.length * sz
  | [], _ => by simp
  | q :: l, h => by rw [List.flatten_cons, List.length_append, flat_len (fun q hq => h q (List.mem_cons_of_mem _ hq)), h q (List.mem_cons_self ..), List.length_cons, Nat.succ_mul]; omega
theorem flat_drop {sz : Nat} : ∀ {l : List (List AC)} (n : Nat), (∀ q ∈ l, q.length = sz) → (l.drop n).flatten = l.flatten.drop (n * sz)
  | l, 0, _ => by simp
  | [], n + 1, _ => by simp
  | q :: l, n + 1, h => by
    rw [List.drop_succ_cons, flat_drop n (fun q hq => h q (List.mem_cons_of_mem _ hq)), List.flatten_cons, Nat.succ_mul, Nat.add_comm, ← List.drop_drop]
    congr 1
    have hq := h q (List.mem_cons_self ..)
    rw [List.drop_append_of_le_length (by omega), List.drop_of_length_le (by omega), List.nil_append]
theorem flat_take {sz : Nat} : ∀ {l : List (List AC)} (n : Nat), (∀ q ∈ l, q.length = sz) → (l.take n).flatten = l.flatten.take (n * sz)
  | l, 0, _ => by simp
  | [], n + 1, _ => by simp
  | q :: l, n + 1, h => by
    have hq := h q (List.mem_cons_self ..)
    have hq := h q (List.mem_cons_self ..)
    rw [List.take_succ_cons, List.flatten_cons, flat_take n (fun q hq => h q (List.mem_cons_of_mem _ hq)), List.flatten_cons, Nat.succ_mul]
    generalize n * sz = m
    rw [List.take_append, List.take_of_length_le (l := q) (i := m + sz) (by omega)]
    congr 2
    omega
theorem lies_rows {G : Gh} {w : World} {g sz : Nat} : ∀ {xs : List (List AC)} {o : Nat}, (∀ (i : Nat) cs, xs[i]? = some cs → cs.length = sz) →
    (∀ (i : Nat) cs (j : Nat) c, xs[i]? = some cs → cs[j]? = some c → ∃ v, w.cell? (adr g (o + (i * sz + j))) = some v ∧ RC G w c v) → Lies G w g o xs.flatten
  | [], o, _, _ => fun j c h => by simp at h
  | x :: xs, o, hs, h => fun j c hj => by
    have hx := hs 0 x rfl
    rw [List.flatten_cons] at hj
    by_cases hlt : j < x.length
    · rw [List.getElem?_append_left hlt] at hj
      have := h 0 x j c rfl hj
      simpa using this
    · rw [List.getElem?_append_right (by omega)] at hj
      have ih := lies_rows (xs := xs) (o := o + sz) (fun i cs hi => hs (i + 1) cs hi) (fun i cs j c hi hj => by
        have := h (i + 1) cs j c hi hj
        rwa [show o + ((i + 1) * sz + j) = o + sz + (i * sz + j) by rw [Nat.succ_mul]; omega] at this)
      obtain ⟨v, h1, h2⟩ := ih _ _ hj
      exact ⟨v, by rw [show o + j = o + sz + (j - x.length) by omega]; exact h1, h2⟩
def byc (s : ByteArray) : List (List AC) := s.data.toList.map fun b => [AC.v (.int .u8 b.toNat)]
/-- the rows of what is appended or copied -/
def srcp (st : Sto) (sz : Nat) (y : AC) : Option (List (List AC)) :=
  match y with
  | .sl z ys => if z = sz then some ys else none
  | .arr id off len => match st id with
    | some (.ar z rows) => if z = sz ∧ off + len ≤ rows.length then some ((rows.drop off).take len) else none
    | _ => none
  | .v (.slice none 0 0) => some []
  | .v (.string s) => if sz = 1 then some (byc s) else none
  | _ => none
def D.src : D → Bool
  | .sl _ => true
  | .s => true
  | _ => false
theorem byc_flat (s : ByteArray) : (byc s).flatten = s.data.toList.map fun b => AC.v (.int .u8 b.toNat) := by
  unfold byc
  induction s.data.toList with
  | nil => rfl
  | cons b l ih => simp [ih]
theorem srcp_ok {P : Program} {T : TT} (TP : TOk P T) {G : Gh} {w : World} {st : Sto} (hI : Inv G w st) {t : TypeId} {i : TI} (hi : T t = some i) {y : AC} {v : Value} (hy : RC G w y v) {sz : Nat} {ys : List (List AC)} (h : srcp st sz y = some ys)
    (hk : (∃ e, i.d = .sl e) ∧ (∀ s, y ≠ .v (.string s)) ∨ i.d = .s ∧ ∃ s, y = .v (.string s)) :
    (∀ q ∈ ys, q.length = sz) ∧ ∃ news, Src P sz t v ys.length news w ∧ news.length = ys.length * sz ∧ ∀ (j : Nat) c u, ys.flatten[j]? = some c → news[j]? = some u → RC G w c u := by
  cases hy with
  | sl z xs A len cap vs hl hc hm hs g o ha hcell hh =>
    simp only [srcp] at h
    split at h
    · rename_i hz
      cases h
      subst hz
      have hrows : ∀ q ∈ ys, q.length = z := fun q hq => by obtain ⟨j, hj⟩ := List.getElem?_of_mem hq; exact hs j q hj
      refine ⟨hrows, ?_⟩
      rcases hk with ⟨⟨e, he⟩, _⟩ | ⟨_, s, hs⟩
      · have hu := und_sl TP hi he
        by_cases hp : 0 < len
        · obtain ⟨rfl, hX⟩ := ha hp
          have hlie : Lies G w g o ys.flatten := lies_rows hs (fun i cs j c a b => ⟨_, hcell i cs j c a b, hh i cs j c a b⟩)
          obtain ⟨news, h1, h2, h3⟩ := hlie.vals
          have hn : news.length = ys.length * z := by rw [h1, flat_len hrows]
          have h1c : ∀ u ∈ news, u.oneCell' = true := fun u hu => by
            obtain ⟨j, hj⟩ := List.getElem?_of_mem hu
            have hlt : j < ys.flatten.length := by rw [← h1]; exact (List.getElem?_eq_some_iff.1 hj).1
            exact (h3 j _ u (List.getElem?_eq_getElem hlt) hj).one
          exact ⟨news, by rw [← hl]; exact Src.ofSlice w hu (adr g o) len cap news (by rw [hl]; exact hn) h2 h1c, hn, h3⟩
        · have h0 : ys = [] := List.eq_nil_of_length_eq_zero (by omega)
          subst h0
          cases hl
          refine ⟨[], ?_, by simp, fun j c u a _ => by simp at a⟩
          cases A with
          | none => exact Src.ofNil w hu cap
          | some a => exact Src.ofSlice w hu a 0 cap [] (by simp) (fun j u hj => by simp at hj) (fun u hu => by cases hu)
      · cases hs
    · cases h
  | arr id off len A cap hn hc hm ha =>
    simp only [srcp] at h
    cases ho : st id with
    | none => rw [ho] at h; cases h
    | some ob =>
      rw [ho] at h
      cases ob with
      | bx cs => cases h
      | ar z rows =>
        dsimp only at h
        split at h
        · rename_i hz
          cases h
          obtain ⟨rfl, hle⟩ := hz
          obtain ⟨g, sz', hU, hb, cs, e', hw, ⟨hz', hrows⟩, hcl, hrel⟩ := hI.get ho
          subst hz'
          have hrows2 : ∀ q ∈ (rows.drop off).take len, q.length = z := fun q hq => hrows q (List.mem_of_mem_drop (List.mem_of_mem_take hq))
          have hlen : ((rows.drop off).take len).length = len := by rw [List.length_take, List.length_drop]; omega
          refine ⟨hrows2, ?_⟩
          rcases hk with ⟨⟨e, he⟩, _⟩ | ⟨_, s, hs⟩
          · have hu := und_sl TP hi he
            obtain ⟨cs', e'', _, hA, _⟩ := ha g z hb
            by_cases hp : 0 < cap
            · have hA' : A = some (adr g (off * z)) := by rcases hA with h | h; omega; exact h
              subst hA'
              have hat : At G w (.ar z rows) g z := ⟨cs, e', hw, ⟨rfl, hrows⟩, hcl, hrel⟩
              have hlie : Lies G w g (off * z) ((rows.drop off).take len).flatten := by
                rw [flat_take len (fun q hq => hrows q (List.mem_of_mem_drop hq)), flat_drop off hrows]
                have := (hat.lies.drop (off * z)).take (len * z)
                rw [Nat.zero_add] at this; exact this
              obtain ⟨news, h1, h2, h3⟩ := hlie.vals
              have hn : news.length = ((rows.drop off).take len).length * z := by rw [h1, flat_len hrows2]
              have h1c : ∀ u ∈ news, u.oneCell' = true := fun u hu => by
                obtain ⟨j, hj⟩ := List.getElem?_of_mem hu
                have hlt : j < ((rows.drop off).take len).flatten.length := by rw [← h1]; exact (List.getElem?_eq_some_iff.1 hj).1
                exact (h3 j _ u (List.getElem?_eq_getElem hlt) hj).one
              exact ⟨news, by rw [hlen]; exact Src.ofSlice w hu (adr g (off * z)) len cap news (by rw [hn, hlen]) h2 h1c, hn, h3⟩
            · have h0 : len = 0 := by omega
              subst h0
              refine ⟨[], ?_, by simp, fun j c u a _ => by simp at a⟩
              rw [hlen]
              cases A with
              | none => exact Src.ofNil w hu cap
              | some a => exact Src.ofSlice w hu a 0 cap [] (by simp) (fun j u hj => by simp at hj) (fun u hu => by cases hu)
          · cases hs
        · cases h
  | v _ h1 =>
    have key : (∃ s, v = .string s ∧ sz = 1 ∧ ys = byc s) ∨ (v = .slice none 0 0 ∧ ys = []) := by
      simp only [srcp] at h
      split at h
      · rename_i heq; cases heq
      · rename_i heq; cases heq
      · rename_i heq; cases heq; cases h; exact .inr ⟨rfl, rfl⟩
      · rename_i heq
        cases heq
        split at h
        · rename_i h2; cases h; exact .inl ⟨_, rfl, h2, rfl⟩
        · cases h
      · cases h
    rcases key with ⟨s, rfl, rfl, rfl⟩ | ⟨rfl, rfl⟩
    · refine ⟨fun q hq => by unfold byc at hq; obtain ⟨b, _, rfl⟩ := List.mem_map.1 hq; rfl, ?_⟩
      rcases hk with ⟨_, hs⟩ | ⟨hs, _⟩
      · exact absurd rfl (hs s)
      · have hbl : (byc s).length = s.size := by unfold byc; rw [List.length_map, Array.length_toList]; rfl
        refine ⟨byteCells s, by rw [hbl]; exact Src.ofString w (und_s TP hi hs) s, by rw [byteCells_length, hbl, Nat.mul_one], fun j c u a b => ?_⟩
        rw [byc_flat, List.getElem?_map] at a
        unfold byteCells at b
        rw [List.getElem?_map] at b
        cases hq : s.data.toList[j]? with
        | none => rw [hq] at a; cases a
        | some q => rw [hq] at a b; cases a; cases b; exact .v _ rfl
    · refine ⟨fun q hq => (by cases hq), ?_⟩
      rcases hk with ⟨⟨e, he⟩, hs⟩ | ⟨_, s, hs⟩
      · exact ⟨[], Src.ofNil w (und_sl TP hi he) 0, by simp, fun j c u a _ => by simp at a⟩
      · cases hs
  | _ => cases h
/-- append -/
def vapp (st : Sto) (sz bytes : Nat) (x y : AC) (K : AV → Sto → Prop) : Prop :=
  ∃ ys, srcp st sz y = some ys ∧
  match x with
  | .v (.slice none 0 0) => ys.length ≤ maxLen ∧ ys.length * bytes ≤ 140737488355328 ∧ (ys = [] → K (.c (.v (.slice none 0 0))) st) ∧ (ys ≠ [] → ∀ id, st id = none → K (.c (.arr id 0 ys.length)) (upd st id (.ar sz ys)))
  | .arr id off len => off = 0 ∧ ∃ rows, st id = some (.ar sz rows) ∧ len ≤ rows.length ∧ len + ys.length ≤ maxLen ∧ (len + ys.length) * bytes ≤ 140737488355328 ∧
      ∀ id', st id' = none → K (.c (.arr id' 0 (len + ys.length))) (upd (del st id) id' (.ar sz (rows.take len ++ ys)))
  | _ => False
theorem cat_rel {G : Gh} {w : World} {sz : Nat} {as bs : List (List AC)} {us vs ex : List Value} (ha : ∀ q ∈ as, q.length = sz) (hu : us.length = as.length * sz)
    (h1 : ∀ (j : Nat) c u, as.flatten[j]? = some c → us[j]? = some u → RC G w c u) (hv : vs.length = bs.flatten.length) (h2 : ∀ (j : Nat) c u, bs.flatten[j]? = some c → vs[j]? = some u → RC G w c u) (j : Nat) (c : AC) (u : Value)
    (hj : (as ++ bs).flatten[j]? = some c) (hw : (us ++ vs ++ ex)[j]? = some u) : RC G w c u := by
  have hal : as.flatten.length = us.length := by rw [flat_len ha, hu]
  rw [List.flatten_append] at hj
  rw [List.append_assoc] at hw
  by_cases h : j < us.length
  · rw [List.getElem?_append_left (by omega)] at hj
    rw [List.getElem?_append_left h] at hw
    exact h1 j c u hj hw
  · rw [List.getElem?_append_right (by omega)] at hj
    rw [List.getElem?_append_right (by omega)] at hw
    have hlt := (List.getElem?_eq_some_iff.1 hj).1
    rw [List.getElem?_append_left (by omega)] at hw
    rw [hal] at hj
    exact h2 _ c u hj hw
end Go.Proofs.YtnafgpgbedcdnaaDoor.D.Pm
namespace Go.Proofs.YtnafgpgbedcdnaaDoor.D.Pm
set_option linter.unusedVariables false
set_option linter.unusedSimpArgs false
open Go
theorem append_in {P : Program} {t tx ty e : TypeId} {i : TypeInfo} {w : World} (ht : P.underlying t = some (.slice e)) (hi : P.info? e = some i) (g sLen sCap : Nat) (x : Value) (n : Nat) (news : List Value) (hs : Src P i.size tx x n news w)
    (hroom : sLen + n ≤ sCap) (cur : Array Value) (e' : TypeId) (hg : w.heap[g]? = some (.cells cur e' (0, 0))) (hfit : sLen * i.size + news.length ≤ cur.size) :
    (Builtin.append_ #[t, tx] ty #[.slice (some ⟨g, 0, none⟩) sLen sCap, x]).run P w = .ok (.slice (some ⟨g, 0, none⟩) (sLen + n) sCap) (w.setRow g (cur.toList.take (sLen * i.size) ++ news ++ cur.toList.drop (sLen * i.size + news.length)).toArray) := by
  have hst := run_storeCells_at (P := P) g (sLen * i.size) e' news 0 cur w hg (by omega) hs.one
  simp only [Nat.add_zero] at hst
  rcases hs.kind with ⟨e2, hk⟩ | hk <;> simp [Builtin.append_, run_underlying ht, run_underlying hk, sizeOf, typeInfo, hi, hs.len, hroom, hs.cells, Addr.add_lit, hst]
theorem Runs.append {P : Program} {T : TT} (TP : TOk P T) {G : Gh} {w : World} {st : Sto} (hI : Inv G w st) {t tx ty e : TypeId} {i j ix : TI} (hi : T t = some i) (hd : i.d = .sl e) (hj : T e = some j) (hz : 0 < j.size) (hix : T tx = some ix) {x y : AC} {v u : Value} (hx : RC G w x v) (hy : RC G w y u)
    (hk : (∃ e, ix.d = .sl e) ∧ (∀ s, y ≠ .v (.string s)) ∨ ix.d = .s ∧ ∃ s, y = .v (.string s)) {K : AV → Sto → Prop} (h : vapp st j.size j.bytes x y K) : Runs P G w (Builtin.append_ #[t, tx] ty #[v, u]) K := by
  obtain ⟨ys, hys, h⟩ := h
  obtain ⟨hrows, news, hsrc, hnl, hrel⟩ := srcp_ok TP hI hix hy hys hk
  have hu := und_sl TP hi hd
  obtain ⟨n, hn, hns, hnb, ⟨z, hz0, hzc, _⟩, hzl, hzo⟩ := TP.f e j hj
  have hzs : z.cells.size = j.size := by rw [← hzl, ← hzc]; simp
  rw [← hns] at hsrc
  cases hx with
  | v _ h1 =>
    have key : v = .slice none 0 0 ∧ ys.length ≤ maxLen ∧ ys.length * j.bytes ≤ 140737488355328 ∧ (ys = [] → K (.c (.v (.slice none 0 0))) st) ∧ (ys ≠ [] → ∀ id, st id = none → K (.c (.arr id 0 ys.length)) (upd st id (.ar j.size ys))) := by
      split at h
      · rename_i heq; cases heq; exact ⟨rfl, h⟩
      · rename_i heq; cases heq
      · exact h.elim
    obtain ⟨rfl, hl1, hl2, hk0, hk1⟩ := key
    by_cases h0 : ys = []
    · subst h0
      have hn0 : news = [] := List.eq_nil_of_length_eq_zero (by simpa using hnl)
      subst hn0
      refine .pure hI (v := .slice none 0 0) ?_ (hk0 rfl) (RV.one _ rfl)
      have hlen : ∀ w' : World, (Builtin.lenOf u).run P w' = .ok 0 w' := hsrc.len
      have hcells : (Builtin.firstCells n.size 0 u).run P w = .ok #[] w := hsrc.cells
      rcases hsrc.kind with ⟨e2, hk2⟩ | hk2 <;> simp [Builtin.append_, run_underlying hu, run_underlying hk2, sizeOf, typeInfo, hn, hlen, hcells]
    · have hp : 0 < ys.length := List.length_pos_iff.2 h0
      have hr := run_append_grow_src (P := P) w t tx ty e n z hu hn hz0 none 0 0 [] (by simp [Builtin.firstCells]) u ys.length news hsrc (by omega) (by simp only [maxLen] at hl1; omega)
        (by rw [hnb]; exact growslice_fits (by omega) (by simpa using hl2))
      obtain ⟨id, hfr, hfn⟩ := hI.fresh
      generalize hcc : ((([] : List Value) ++ news).toArray ++ Builtin.zeroCells z.cells (grownCap w (0 + ys.length) 0 e - (0 + ys.length))) = cells at hr
      have hsz : cells.size = grownCap w (0 + ys.length) 0 e * j.size := by
        rw [← hcc]
        have := grownCap_ge w (0 + ys.length) 0 e
        simp only [Array.size_append, List.nil_append, List.size_toArray, size_zeroCells, hzs, hnl]
        rw [← Nat.add_mul]; congr 1; omega
      have hge := grownCap_ge w (0 + ys.length) 0 e
      obtain ⟨hX, hI'⟩ := hI.alloc (w' := w.drew.alloc (.cells cells e)) hfr (.ar j.size ys) j.size cells e rfl ⟨rfl, hrows⟩ (by
          show ys.flatten.length ≤ _
          rw [flat_len hrows, hsz]; exact Nat.mul_le_mul_right _ (by omega)) (fun q c x hc hx => by
          have hq : (news ++ (Builtin.zeroCells z.cells (grownCap w (0 + ys.length) 0 e - (0 + ys.length))).toList)[q]? = some x := by
            rw [← hcc, ← Array.getElem?_toList, Array.toList_append, List.toList_toArray] at hx; exact hx
          have hlt : q < news.length := by rw [hnl, ← flat_len hrows]; exact (List.getElem?_eq_some_iff.1 hc).1
          rw [List.getElem?_append_left hlt] at hq
          exact hrel q c x hc hq)
      refine ⟨_, _, _, _, _, hr, hk1 h0 id hfn, hX, hI', .c _ _ ?_⟩
      rw [Nat.zero_add] at hge hsz ⊢
      refine .arr id 0 _ _ _ (.inr rfl) hge (grownCap_le_maxLen w _ 0 e hl1) (fun g sz hb => ?_)
      change (if id = id then _ else _) = _ at hb
      rw [if_pos rfl] at hb
      cases hb
      refine ⟨cells, e, heap_alloc_new w.drew _, .inr (by rw [Nat.zero_mul]; rfl), by rw [hsz, Nat.zero_add]; exact Nat.le_refl _⟩
  | arr id off len A cap hU hc hm ha =>
    obtain ⟨rfl, rows, ho, hle, hl1, hl2, hK⟩ := h
    obtain ⟨g, sz, hU', hb, cs, e', hw, ⟨hsz, hr0⟩, hcl, hrel0⟩ := hI.get ho
    cases hsz
    obtain ⟨cs2, e2, hw2, hA, hcap⟩ := ha g _ hb
    rw [hw] at hw2
    cases hw2
    rw [Nat.zero_mul] at hA
    rw [Nat.zero_add] at hcap
    have hrt : ∀ q ∈ rows.take len, q.length = j.size := fun q hq => hr0 q (List.mem_of_mem_take hq)
    have hrr : ∀ q ∈ rows.take len ++ ys, q.length = j.size := fun q hq => by
      rcases List.mem_append.1 hq with h | h
      · exact hrt q h
      · exact hrows q h
    have htl : (rows.take len).length = len := by rw [List.length_take]; omega
    have hfl : (rows.take len ++ ys).flatten.length = (len + ys.length) * j.size := by rw [flat_len hrr, List.length_append, htl]
    have hrel1 : ∀ (q : Nat) c u, (rows.take len).flatten[q]? = some c → (cs.toList.take (len * j.size))[q]? = some u → RC G w c u := fun q c u h1 h2 => by
      rw [flat_take len hr0, List.getElem?_take] at h1
      rw [List.getElem?_take] at h2
      split at h1
      · rename_i hq
        rw [if_pos hq] at h2
        exact hrel0 q c u h1 (by simpa using h2)
      · cases h1
    have htk : (cs.toList.take (len * j.size)).length = len * j.size := by
      rw [List.length_take]
      have : len * j.size ≤ cap * j.size := Nat.mul_le_mul_right _ hc
      simp; omega
    by_cases hroom : len + ys.length ≤ cap
    · by_cases hcap0 : cap = 0
      · have hy0 : ys = [] := List.eq_nil_of_length_eq_zero (by omega)
        have hl0 : len = 0 := by omega
        subst hy0 hl0 hcap0
        have hn0 : news = [] := List.eq_nil_of_length_eq_zero (by simpa using hnl)
        subst hn0
        obtain ⟨nid, hnu, hnn⟩ := hI.fresh
        obtain ⟨hX1, hI1⟩ := hI.set hb (.ar j.size (rows.take 0 ++ [])) cs cs e' hw rfl (fun _ _ => rfl) hw rfl ⟨rfl, hrr⟩ (by simp [Ob.cells]) (fun q c x hcc _ => by simp [Ob.cells] at hcc)
        obtain ⟨hX2, hI2⟩ := hI1.ren hb hnu (o := .ar j.size (rows.take 0 ++ [])) (by unfold upd; rw [if_pos rfl])
        have hst : upd (del (upd st id (.ar j.size (rows.take 0 ++ []))) id) nid (.ar j.size (rows.take 0 ++ [])) = upd (del st id) nid (.ar j.size (rows.take 0 ++ [])) := by
          funext q; unfold upd del; by_cases h1 : q = nid <;> by_cases h2 : q = id <;> simp [h1, h2]
        rw [hst] at hI2
        refine ⟨.slice A 0 0, w, _, _, _, ?_, hK nid hnn, hX1.trans hX2, hI2, .c _ _ (.arr nid 0 _ A 0 (.inr rfl) (by simp) (Nat.zero_le _) (fun g' sz' hb' => ?_))⟩
        · have hlen : ∀ w' : World, (Builtin.lenOf u).run P w' = .ok 0 w' := hsrc.len
          have hcells : (Builtin.firstCells n.size 0 u).run P w = .ok #[] w := hsrc.cells
          cases A <;> (rcases hsrc.kind with ⟨e2, hk2⟩ | hk2 <;> simp [Builtin.append_, run_underlying hu, run_underlying hk2, sizeOf, typeInfo, hn, hlen, hcells, storeCells])
        · change (if nid = nid then _ else _) = _ at hb'
          rw [if_pos rfl] at hb'
          cases hb'
          exact ⟨cs, e', hw, .inl rfl, by simp⟩
      · have hA' : A = some (adr g 0) := hA.resolve_left hcap0
        subst hA'
        have hfit : len * n.size + news.length ≤ cs.size := by
          rw [hns, hnl, ← Nat.add_mul]
          exact Nat.le_trans (Nat.mul_le_mul_right _ hroom) hcap
        have hr := append_in (P := P) (ty := ty) hu hn g len cap u ys.length news hsrc hroom cs e' hw hfit
        rw [hns] at hr hfit
        obtain ⟨nid, hnu, hnn⟩ := hI.fresh
        obtain ⟨hX1, hI1⟩ := hI.set hb (.ar j.size (rows.take len ++ ys)) cs _ e' hw (size_setRow w g _) (fun k hk => setRow_other w g k _ hk) (setRow_heap w g cs _ e' _ hw) (by
            simp only [List.size_toArray, List.length_append, htk, List.length_drop]; simp; omega) ⟨rfl, hrr⟩ (by
            show (rows.take len ++ ys).flatten.length ≤ _
            rw [hfl, Nat.add_mul]
            simp only [List.size_toArray, List.length_append, htk, hnl]; omega) (fun q c x hcc hx => cat_rel hrt (by rw [htl]; exact htk) hrel1 (by rw [hnl, flat_len hrows]) hrel q c x hcc (by simpa using hx))
          (w' := w.setRow g (cs.toList.take (len * j.size) ++ news ++ cs.toList.drop (len * j.size + news.length)).toArray)
        obtain ⟨hX2, hI2⟩ := hI1.ren hb hnu (o := .ar j.size (rows.take len ++ ys)) (by unfold upd; rw [if_pos rfl])
        have hst : upd (del (upd st id (.ar j.size (rows.take len ++ ys))) id) nid (.ar j.size (rows.take len ++ ys)) = upd (del st id) nid (.ar j.size (rows.take len ++ ys)) := by
          funext q; unfold upd del; by_cases h1 : q = nid <;> by_cases h2 : q = id <;> simp [h1, h2]
        rw [hst] at hI2
        refine ⟨_, _, _, _, _, hr, hK nid hnn, hX1.trans hX2, hI2, .c _ _ (.arr nid 0 _ _ cap (.inr rfl) hroom hm (fun g' sz' hb' => ?_))⟩
        change (if nid = nid then _ else _) = _ at hb'
        rw [if_pos rfl] at hb'
        cases hb'
        refine ⟨_, e', setRow_heap w g cs _ e' _ hw, .inr (by rw [Nat.zero_mul]; rfl), ?_⟩
        rw [Nat.zero_add]
        simp only [List.size_toArray, List.length_append, htk, List.length_drop]
        simp
        omega
    · have hold : (Builtin.firstCells n.size len (.slice A len cap)).run P w.drew = .ok (cs.toList.take (len * j.size)).toArray w.drew := by
        by_cases hl0 : len = 0
        · subst hl0
          cases A with
          | none => simp [Builtin.firstCells]
          | some a => simp [Builtin.firstCells, loadCells, loadCellsFrom]
        · have hA' : A = some (adr g 0) := by rcases hA with h | h; omega; exact h
          subst hA'
          refine run_firstCells_some (P := P) w.drew n.size len (adr g 0) len cap (cs.toList.take (len * j.size)) (by rw [htk, hns]) (fun q x hq => ?_)
          rw [adr_add, Nat.zero_add]
          rw [List.getElem?_take] at hq
          split at hq
          · have : w.cell? (adr g q) = some x := by rw [cell_of hw]; simpa using hq
            exact this
          · cases hq
      have hr := run_append_grow_src (P := P) w t tx ty e n z hu hn hz0 A len cap (cs.toList.take (len * j.size)) hold u ys.length news hsrc (by omega) (by simp only [maxLen] at hl1; omega)
        (by rw [hnb]; exact growslice_fits (by omega) (by simpa using hl2))
      obtain ⟨nid, hfr, hfn⟩ := hI.fresh
      have hge := grownCap_ge w (len + ys.length) cap e
      generalize hcc : ((cs.toList.take (len * j.size) ++ news).toArray ++ Builtin.zeroCells z.cells (grownCap w (len + ys.length) cap e - (len + ys.length))) = cells at hr
      have hsz : cells.size = grownCap w (len + ys.length) cap e * j.size := by
        rw [← hcc]
        simp only [Array.size_append, List.size_toArray, List.length_append, htk, size_zeroCells, hzs, hnl]
        rw [← Nat.add_mul, ← Nat.add_mul]; congr 1; omega
      have hI0 : Inv G w (del st id) := hI.le (fun q o h => by unfold del at h; split at h; cases h; exact h)
      obtain ⟨hX, hI'⟩ := hI0.alloc (w' := w.drew.alloc (.cells cells e)) hfr (.ar j.size (rows.take len ++ ys)) j.size cells e rfl ⟨rfl, hrr⟩ (by
          show (rows.take len ++ ys).flatten.length ≤ _
          rw [hfl, hsz]; exact Nat.mul_le_mul_right _ hge) (fun q c x hcx hx => by
          have hq : (cs.toList.take (len * j.size) ++ news ++ (Builtin.zeroCells z.cells (grownCap w (len + ys.length) cap e - (len + ys.length))).toList)[q]? = some x := by
            rw [← hcc, ← Array.getElem?_toList, Array.toList_append, List.toList_toArray] at hx; exact hx
          exact cat_rel hrt (by rw [htl]; exact htk) hrel1 (by rw [hnl, flat_len hrows]) hrel q c x hcx hq)
      refine ⟨_, _, _, _, _, hr, hK nid hfn, hX, hI', .c _ _ (.arr nid 0 _ _ _ (.inr rfl) hge (grownCap_le_maxLen w _ cap e hl1) (fun g' sz' hb' => ?_))⟩
      change (if nid = nid then _ else _) = _ at hb'
      rw [if_pos rfl] at hb'
      cases hb'
      exact ⟨cells, e, heap_alloc_new w.drew _, .inr (by rw [Nat.zero_mul]; rfl), by rw [hsz, Nat.zero_add]; exact Nat.le_refl _⟩
  | _ => exact h.elim
end Go.Proofs.YtnafgpgbedcdnaaDoor.D.Pm
namespace Go.Proofs.YtnafgpgbedcdnaaDoor.D.Pm
set_option linter.unusedVariables false
set_option linter.unusedSimpArgs false
open Go
theorem byc_take (s : ByteArray) (m : Nat) : byc (s.extract 0 m) = (byc s).take m := by
  unfold byc
  rw [← List.map_take]
  congr 1
  simp [ByteArray.extract, ByteArray.copySlice]
/-- the first rows of what is copied -/
theorem src_first {P : Program} {T : TT} (TP : TOk P T) {G : Gh} {w : World} {st : Sto} (hI : Inv G w st) {t : TypeId} {i : TI} (hi : T t = some i) {y : AC} {v : Value} (hy : RC G w y v) {sz : Nat} {ys : List (List AC)} (h : srcp st sz y = some ys)
    (hk : (∃ e, i.d = .sl e) ∧ (∀ s, y ≠ .v (.string s)) ∨ i.d = .s ∧ ∃ s, y = .v (.string s)) {m : Nat} (hm : m ≤ ys.length) :
    (∀ q ∈ ys, q.length = sz) ∧ (∀ w' : World, (Builtin.lenOf v).run P w' = .ok ys.length w') ∧ ∃ news : List Value, (Builtin.firstCells sz m v).run P w = .ok news.toArray w ∧ news.length = m * sz ∧ (∀ u ∈ news, u.oneCell' = true) ∧ ∀ (j : Nat) c u, (ys.take m).flatten[j]? = some c → news[j]? = some u → RC G w c u := by
  obtain ⟨hrows, full, hsrc, hnl, hrel⟩ := srcp_ok TP hI hi hy h hk
  refine ⟨hrows, hsrc.len, full.take (m * sz), ?_, ?_, fun u hu => hsrc.one u (List.mem_of_mem_take hu), fun j c u hc hu => ?_⟩
  · have hcells := hsrc.cells
    have hlen := hsrc.len w
    cases v <;> first | (simp [Builtin.lenOf] at hlen; done) | skip
    case string s =>
      have hsz : s.size = ys.length := by simpa [Builtin.lenOf] using hlen
      rw [← hsz] at hcells hm
      simp only [Builtin.firstCells] at hcells ⊢
      have e1 : full = ((s.extract 0 s.size).data.map fun b => Value.int .u8 b.toNat).toList := by
        have : ((s.extract 0 s.size).data.map fun b => Value.int .u8 b.toNat) = full.toArray := by simpa using hcells
        rw [this]
      by_cases h1 : sz = 1
      · subst h1
        have e2 : ((s.extract 0 m).data.map fun b => Value.int .u8 b.toNat) = (full.take (m * 1)).toArray := by
          rw [e1]
          apply Array.ext'
          simp [ByteArray.extract, ByteArray.copySlice, Nat.min_eq_left hm, List.map_take, List.take_take]
        rw [e2]; rfl
      · exfalso
        rcases hk with ⟨_, hk⟩ | ⟨_, q, rfl⟩
        · cases hy with
          | v _ _ => exact hk _ rfl
          | ab F _ _ => cases h
        · simp only [srcp] at h
          rw [if_neg h1] at h
          cases h
    case slice A len cap =>
      cases A with
      | none =>
        simp only [Builtin.firstCells] at hcells ⊢
        have e1 : full = [] := by
          have : (#[] : Array Value) = full.toArray := by simpa using hcells
          have := congrArg Array.toList this
          simpa using this.symm
        subst e1
        simp
      | some a =>
        simp only [Builtin.firstCells] at hcells ⊢
        have hf := hsrc.cells
        -- the cells that lie there
        have key : ∀ (j : Nat) u, full[j]? = some u → w.cell? (a.add j) = some u := by
          cases hy with
          | v q hq => simp [srcp] at h
          | ab F _ _ => cases h
          | sl z xs A len cap vs hl hc hmx hs g o ha hcell hh =>
            by_cases hp : 0 < len
            · obtain ⟨hA, hX⟩ := ha hp
              cases hA
              have hz : z = sz := by simp only [srcp] at h; split at h; assumption; cases h
              subst hz
              have hxs : xs = ys := by simp only [srcp] at h; split at h <;> cases h; rfl
              subst hxs
              have hlie : Lies G w g o xs.flatten := lies_rows hs (fun i cs j c p q => ⟨_, hcell i cs j c p q, hh i cs j c p q⟩)
              obtain ⟨news, h1, h2, h3⟩ := hlie.vals
              have hr := run_firstCells_some (P := P) w z len (adr g o) len cap news (by rw [h1, flat_len hrows, hl]) h2
              simp only [Builtin.firstCells] at hr
              rw [← hl] at hcells
              rw [hcells] at hr
              have : full = news := by
                have e : full.toArray = news.toArray := by injection hr
                simpa using congrArg Array.toList e
              rw [this]; exact h2
            · have h0 : ys.length = 0 := by simp only [srcp] at h; split at h <;> cases h; omega
              have : full = [] := List.eq_nil_of_length_eq_zero (by rw [hnl, h0]; simp)
              subst this
              intro j u hj; simp at hj
          | arr id off len A cap hn hc hmx ha =>
            simp only [srcp] at h
            cases ho : st id with
            | none => rw [ho] at h; cases h
            | some ob =>
              rw [ho] at h
              cases ob with
              | bx cs => cases h
              | ar z rows =>
                dsimp only at h
                split at h
                · rename_i hz
                  cases h
                  obtain ⟨rfl, hle⟩ := hz
                  obtain ⟨g, sz', hU, hb, cs, e', hw, ⟨hz', hr0⟩, hcl, hrel0⟩ := hI.get ho
                  subst hz'
                  obtain ⟨cs', e'', _, hA, _⟩ := ha g z hb
                  rcases hA with hA | hA
                  · have h0 : len = 0 := by omega
                    subst h0
                    have : full = [] := List.eq_nil_of_length_eq_zero (by rw [hnl]; simp)
                    subst this
                    intro j u hj; simp at hj
                  · cases hA
                    have hat : At G w (.ar z rows) g z := ⟨cs, e', hw, ⟨rfl, hr0⟩, hcl, hrel0⟩
                    have hlie : Lies G w g (off * z) ((rows.drop off).take len).flatten := by
                      rw [flat_take len (fun q hq => hr0 q (List.mem_of_mem_drop hq)), flat_drop off hr0]
                      have := (hat.lies.drop (off * z)).take (len * z)
                      rw [Nat.zero_add] at this; exact this
                    obtain ⟨news, h1, h2, h3⟩ := hlie.vals
                    have hlen' : ((rows.drop off).take len).length = len := by rw [List.length_take, List.length_drop]; omega
                    have hr := run_firstCells_some (P := P) w z len (adr g (off * z)) len cap news (by rw [h1, flat_len hrows, hlen']) h2
                    simp only [Builtin.firstCells] at hr
                    rw [hlen'] at hcells
                    rw [hcells] at hr
                    have : full = news := by
                      have e : full.toArray = news.toArray := by injection hr
                      simpa using congrArg Array.toList e
                    rw [this]; exact h2
                · cases h
        have hl2 : (full.take (m * sz)).length = m * sz := by
          rw [List.length_take, hnl]
          have : m * sz ≤ ys.length * sz := Nat.mul_le_mul_right _ hm
          omega
        have := run_loadCells_list (P := P) w a (full.take (m * sz)) (fun j u hj => by
          rw [List.getElem?_take] at hj
          split at hj
          · exact key j u hj
          · cases hj)
        rw [hl2] at this
        exact this
  · rw [List.length_take, hnl]
    have : m * sz ≤ ys.length * sz := Nat.mul_le_mul_right _ hm
    omega
  · rw [flat_take m hrows, List.getElem?_take] at hc
    rw [List.getElem?_take] at hu
    split at hc
    · rename_i hj
      rw [if_pos hj] at hu
      exact hrel j c u hc hu
    · cases hc
/-- what a copy does -/
def cpy (st : Sto) (sz : Nat) (x : AC) (ys : List (List AC)) (K : AV → Sto → Prop) : Prop :=
  match x with
  | .v (.slice none 0 0) => K (vI .i64 0) st
  | .arr id off len => ∃ rows, st id = some (.ar sz rows) ∧ off + len ≤ rows.length ∧ K (vI .i64 (min ys.length len : Nat)) (upd st id (.ar sz (rows.take off ++ ys.take len ++ rows.drop (off + min ys.length len))))
  | _ => False
theorem goInt_nat (n : Nat) (h : n ≤ maxLen) : goInt n = .int .i64 (n : Int) := by
  unfold goInt
  congr 1
theorem Runs.copy {P : Program} {T : TT} (TP : TOk P T) {G : Gh} {w : World} {st : Sto} (hI : Inv G w st) {t tx ty e : TypeId} {i j ix : TI} (hi : T t = some i) (hd : i.d = .sl e) (hj : T e = some j) (hix : T tx = some ix) {x y : AC} {v u : Value} (hx : RC G w x v) (hy : RC G w y u)
    (hk : (∃ e, ix.d = .sl e) ∧ (∀ s, y ≠ .v (.string s)) ∨ ix.d = .s ∧ ∃ s, y = .v (.string s)) {ys : List (List AC)} (hys : srcp st j.size y = some ys) {K : AV → Sto → Prop} (h : cpy st j.size x ys K) : Runs P G w (Builtin.copy_ #[t, tx] ty #[v, u]) K := by
  have hu := und_sl TP hi hd
  have hsz := run_size TP (w := w) hj
  cases hx with
  | v _ h1 =>
    have key : v = .slice none 0 0 ∧ K (vI .i64 0) st := by
      unfold cpy at h
      split at h
      · rename_i heq; cases heq; exact ⟨rfl, h⟩
      · rename_i heq; cases heq
      · exact h.elim
    obtain ⟨rfl, hK⟩ := key
    obtain ⟨_, hlen, news, hf, _⟩ := src_first TP hI hix hy hys hk (m := 0) (Nat.zero_le _)
    refine .pure hI (v := .int .i64 0) ?_ hK (RV.one _ rfl)
    have hf' : (Builtin.firstCells j.size (Nat.min ys.length 0) u).run P w = .ok news.toArray w := by rw [show Nat.min ys.length 0 = 0 from Nat.min_zero _]; exact hf
    simp [Builtin.copy_, run_underlying hu, hsz, hlen, hf, goInt]
  | arr id off len A cap hU hc hm ha =>
    obtain ⟨rows, ho, hle, hK⟩ := h
    obtain ⟨g, sz, hU', hb, cs, e', hw, ⟨hsz', hr0⟩, hcl, hrel0⟩ := hI.get ho
    cases hsz'
    obtain ⟨cs2, e2, hw2, hA, hcap⟩ := ha g _ hb
    rw [hw] at hw2
    cases hw2
    have hmy : min ys.length len ≤ ys.length := Nat.min_le_left ..
    have hml : min ys.length len ≤ len := Nat.min_le_right ..
    have htk : ys.take len = ys.take (min ys.length len) := by
      rcases Nat.le_total len ys.length with h | h
      · rw [Nat.min_eq_right h]
      · rw [Nat.min_eq_left h, List.take_of_length_le h, List.take_of_length_le (Nat.le_refl _)]
    rw [htk] at hK
    obtain ⟨hrows, hlen, news, hf, hnl, hone, hrel⟩ := src_first TP hI hix hy hys hk hmy
    have hkk : K (vI .i64 (min ys.length len : Nat)) (upd st id (.ar j.size (rows.take off ++ ys.take (min ys.length len) ++ rows.drop (off + min ys.length len)))) := hK
    have hmin : Nat.min ys.length len = min ys.length len := rfl
    generalize min ys.length len = m at *
    have hrr : ∀ q ∈ rows.take off ++ ys.take m ++ rows.drop (off + m), q.length = j.size := fun q hq => by
      rcases List.mem_append.1 hq with h | h
      · rcases List.mem_append.1 h with h | h
        · exact hr0 q (List.mem_of_mem_take h)
        · exact hrows q (List.mem_of_mem_take h)
      · exact hr0 q (List.mem_of_mem_drop h)
    have hll : (rows.take off ++ ys.take m ++ rows.drop (off + m)).length = rows.length := by
      simp only [List.length_append, List.length_take, List.length_drop]; omega
    have hfl : (rows.take off ++ ys.take m ++ rows.drop (off + m)).flatten.length = rows.flatten.length := by rw [flat_len hrr, flat_len hr0, hll]
    by_cases h0 : m = 0
    · subst h0
      have e1 : news = [] := List.eq_nil_of_length_eq_zero (by rw [hnl]; simp)
      subst e1
      have e2 : rows.take off ++ ys.take 0 ++ rows.drop (off + 0) = rows := by simp
      rw [e2] at hkk
      refine .pure (st := upd st id (.ar j.size rows)) (hI.le fun i o hi => ?_) (v := .int .i64 0) ?_ hkk (RV.one _ rfl)
      · unfold upd at hi
        split at hi
        · rename_i h; cases hi; rw [h]; exact ho
        · exact hi
      · cases A <;> simp [Builtin.copy_, run_underlying hu, hsz, hlen, hmin, hf, goInt, storeCells]
    · have hA' : A = some (adr g (off * j.size)) := by rcases hA with h | h; omega; exact h
      subst hA'
      have hfit : off * j.size + 0 + news.length ≤ cs.size := by
        have : (off + m) * j.size ≤ (off + cap) * j.size := Nat.mul_le_mul_right _ (by omega)
        rw [hnl, Nat.add_zero, ← Nat.add_mul]; omega
      have hst := run_storeCells_at (P := P) g (off * j.size) e' news 0 cs w hw hfit hone
      simp only [Nat.add_zero] at hst hfit
      have hset := hI.set hb (.ar j.size (rows.take off ++ ys.take m ++ rows.drop (off + m))) cs _ e' hw (size_setRow w g _) (fun k hk => setRow_other w g k _ hk) (setRow_heap w g cs _ e' _ hw) (by
            simp only [List.size_toArray, List.length_append, List.length_take, List.length_drop]; simp; omega) ⟨rfl, hrr⟩ (by
            show (rows.take off ++ ys.take m ++ rows.drop (off + m)).flatten.length ≤ _
            rw [hfl]
            refine Nat.le_trans hcl ?_
            simp only [List.size_toArray, List.length_append, List.length_take, List.length_drop]; simp; omega) (fun q c x hcc hx => ?_)
          (w' := w.setRow g (cs.toList.take (off * j.size) ++ news ++ cs.toList.drop (off * j.size + news.length)).toArray)
      · refine ⟨.int .i64 m, _, _, _, _, ?_, hkk, hset.1, hset.2, RV.one _ rfl⟩
        simp [Builtin.copy_, run_underlying hu, hsz, hlen, hmin, hf, goInt, adr, hst]
      · have hx' : (cs.toList.take (off * j.size) ++ news ++ cs.toList.drop (off * j.size + news.length))[q]? = some x := by simpa using hx
        have hcc' : (rows.take off ++ ys.take m ++ rows.drop (off + m)).flatten[q]? = some c := hcc
        rw [List.flatten_append, List.flatten_append, flat_take off hr0, flat_take m hrows, flat_drop (off + m) hr0] at hcc'
        have l1 : (rows.flatten.take (off * j.size)).length = off * j.size := by
          rw [List.length_take, flat_len hr0]
          have : off * j.size ≤ rows.length * j.size := Nat.mul_le_mul_right _ (by omega)
          omega
        have l2 : (ys.flatten.take (m * j.size)).length = m * j.size := by
          rw [List.length_take, flat_len hrows]
          have : m * j.size ≤ ys.length * j.size := Nat.mul_le_mul_right _ hmy
          omega
        have l3 : (cs.toList.take (off * j.size)).length = off * j.size := by
          rw [List.length_take]; simp; omega
        by_cases q1 : q < off * j.size
        · rw [List.append_assoc, List.getElem?_append_left (by omega), List.getElem?_take_of_lt q1] at hcc' hx'
          exact hrel0 q c x hcc' (by simpa using hx')
        · by_cases q2 : q < off * j.size + m * j.size
          · rw [List.getElem?_append_left (by rw [List.length_append]; omega), List.getElem?_append_right (by omega)] at hcc' hx'
            rw [l1] at hcc'
            rw [l3] at hx'
            exact hrel _ c x (by rw [flat_take m hrows]; exact hcc') hx'
          · rw [List.getElem?_append_right (by rw [List.length_append]; omega), List.getElem?_drop, List.length_append] at hcc' hx'
            rw [l1, l2, Nat.add_mul, show off * j.size + m * j.size + (q - (off * j.size + m * j.size)) = q by omega] at hcc'
            rw [l3, hnl, show off * j.size + m * j.size + (q - (off * j.size + m * j.size)) = q by omega] at hx'
            exact hrel0 q c x hcc' (by simpa using hx')
  | _ => exact h.elim
end Go.Proofs.YtnafgpgbedcdnaaDoor.D.Pm
namespace Go.Proofs.YtnafgpgbedcdnaaDoor.D.Pm
set_option linter.unusedVariables false
set_option linter.unusedSimpArgs false
open Go
def onO {α : Type} (o : Option α) (F : α → Prop) : Prop :=
  match o with
  | some a => F a
  | none => False
def onB (b : Bool) (F : Bool → Prop) : Prop :=
  match b with
  | true => F true
  | false => F false
def onC (r : AV) (F : AC → Prop) : Prop :=
  match r with
  | .c x => F x
  | _ => False
def onT (r : AV) (F : Bool → Prop) : Prop :=
  match r with
  | .c (.v (.bool b)) => onB b F
  | _ => False
theorem onO_iff {α : Type} {o : Option α} {F : α → Prop} : onO o F ↔ ∃ a, o = some a ∧ F a := by
  cases o <;> simp [onO]
theorem onB_iff {b : Bool} {F : Bool → Prop} : onB b F ↔ F b := by cases b <;> rfl
theorem onC_iff {r : AV} {F : AC → Prop} : onC r F ↔ ∃ x, r = .c x ∧ F x := by cases r <;> simp [onC]
theorem onT_iff {r : AV} {F : Bool → Prop} : onT r F ↔ ∃ b, r = .c (.v (.bool b)) ∧ F b := by
  constructor
  · intro h
    unfold onT at h
    split at h
    · exact ⟨_, rfl, onB_iff.1 h⟩
    · exact h.elim
  · rintro ⟨b, rfl, h⟩; exact onB_iff.2 h
theorem onB_t {b : Bool} {F : Bool → Prop} (h : b = true) (k : F true) : onB b F := by subst h; exact k
theorem onB_f {b : Bool} {F : Bool → Prop} (h : b = false) (k : F false) : onB b F := by subst h; exact k
theorem onB_or {b : Bool} {F : Bool → Prop} (k : b = true → F true) (k' : b = false → F false) : onB b F := by cases b; exact k' rfl; exact k rfl
def vcmp (p : Prop) (K : AV → Prop) : Prop := (p → K (vB true)) ∧ (¬ p → K (vB false))
theorem vcmp_ok {p : Prop} [Decidable p] {K : AV → Prop} (h : vcmp p K) : K (vB (decide p)) := by
  by_cases hp : p
  · rw [decide_eq_true hp]; exact h.1 hp
  · rw [decide_eq_false hp]; exact h.2 hp
theorem vcmp_not {p : Prop} [Decidable p] {K : AV → Prop} (h : vcmp (¬ p) K) : K (vB (!decide p)) := by
  by_cases hp : p
  · rw [decide_eq_true hp]; exact h.2 (fun h => h hp)
  · rw [decide_eq_false hp]; exact h.1 hp
/-- two numbers -/
def vII (op : BinOp) (k : IntKind) (a b : Int) (K : AV → Prop) : Prop :=
  match op with
  | .add => K (vI k (k.wrap (a + b)))
  | .sub => K (vI k (k.wrap (a - b)))
  | .mul => K (vI k (k.wrap (a * b)))
  | .quo => b ≠ 0 ∧ K (vI k (k.wrap (a.tdiv b)))
  | .rem => b ≠ 0 ∧ K (vI k (a.tmod b))
  | .eql => vcmp (a = b) K
  | .neq => vcmp (¬ a = b) K
  | .lss => vcmp (a < b) K
  | .leq => vcmp (a ≤ b) K
  | .gtr => vcmp (b < a) K
  | .geq => vcmp (b ≤ a) K
  | .or => K (vI k (k.wrap (BitVec.ofInt k.bits a ||| BitVec.ofInt k.bits b).toNat))
  | .and => K (vI k (k.wrap (BitVec.ofInt k.bits a &&& BitVec.ofInt k.bits b).toNat))
  | _ => False
def vSS (op : BinOp) (a b : ByteArray) (K : AV → Prop) : Prop :=
  match op with
  | .add => a.size + b.size ≤ 9223372036854775807 ∧ K (vS (a ++ b))
  | .eql => vcmp (a = b) K
  | .neq => vcmp (¬ a = b) K
  | .lss => K (vB (Op.bytesLess a.toList b.toList))
  | .gtr => K (vB (!(Op.bytesLess a.toList b.toList || decide (a = b))))
  | .leq => K (vB (Op.bytesLess a.toList b.toList || decide (a = b)))
  | .geq => K (vB (!Op.bytesLess a.toList b.toList))
  | _ => False
/-- is it nil? -/
def vnil (x : AC) (K : Bool → Prop) : Prop :=
  match x with
  | .ptr _ _ => K false
  | .pe _ _ _ => K false
  | .ep _ => K false
  | .v (.pointer none) => K true
  | .sl _ xs => ∀ b, (0 < xs.length → b = false) → K b
  | .v (.slice none 0 0) => K true
  | _ => False
def isNil : AC → Bool
  | .v (.pointer none) => true
  | .v (.slice none 0 0) => true
  | _ => false
def vbin (op : BinOp) (x y : AC) (K : AV → Prop) : Prop :=
  match x, y with
  | .v (.int k a), .v (.int k' b) => match op with
    | .shl => 0 ≤ b ∧ K (vI k (k.wrap (a * 2 ^ (min b.toNat k.bits))))
    | .shr => 0 ≤ b ∧ K (vI k (a.fdiv (2 ^ (min b.toNat k.bits))))
    | op => if k = k' then vII op k a b K else False
  | .v (.string a), .v (.string b) => vSS op a b K
  | .v (.bool a), .v (.bool b) => match op with
    | .eql => onB a fun a => onB b fun b => K (vB (a == b))
    | .neq => onB a fun a => onB b fun b => K (vB (a != b))
    | _ => False
  | x, y => match op with
    | .eql => if isNil y = true then vnil x fun b => K (vB b) else False
    | .neq => if isNil y = true then vnil x fun b => K (vB (!b)) else False
    | _ => False
theorem eqGuard_ok {P : Program} {w : World} (op : BinOp) (t : TypeId) (x y : Operand) (u v : Value) (h1 : ∀ a b, u = .agg a → v = .agg b → False) (h2 : u = .nilIface → v = .nilIface → False) : (eqGuard op t x y u v).run P w = .ok () w := by
  cases op
  case eql => cases u <;> cases v <;> first | rfl | exact (h1 _ _ rfl rfl).elim | exact (h2 rfl rfl).elim
  case neq => cases u <;> cases v <;> first | rfl | exact (h1 _ _ rfl rfl).elim | exact (h2 rfl rfl).elim
  all_goals rfl
section
variable {P : Program} {G : Gh} {w : World} {st : Sto} {t : TypeId}
theorem runB {s : Sem Value} {K : AV → Sto → Prop} {x : Value} (hI : Inv G w st) (hs : s.run P w = .ok x w) (hx : x.oneCell' = true) (hk : K (.c (.v x)) st) : Runs P G w s K := .pure hI hs hk (RV.one x hx)
theorem bII (hI : Inv G w st) (op : BinOp) (k : IntKind) (a b : Int) (hs : op ≠ .shl) (hs' : op ≠ .shr) {K : AV → Sto → Prop} (h : vII op k a b fun r => K r st) : Runs P G w (binOp op t (.int k a) (.int k b)) K := by
  cases op <;> simp only [vII] at h <;> first | exact h.elim | exact absurd rfl hs | exact absurd rfl hs' | skip
  case add => exact runB hI (by simp [binOp, Op.intArith]) rfl h
  case sub => exact runB hI (by simp [binOp, Op.intArith]) rfl h
  case mul => exact runB hI (by simp [binOp, Op.intArith]) rfl h
  case quo => exact runB hI (by simp [binOp, Op.intDiv, h.1]) rfl h.2
  case rem => exact runB hI (by simp [binOp, Op.intDiv, h.1]) rfl h.2
  case and => exact runB hI (by simp [binOp, Op.intBits]) rfl h
  case or => exact runB hI (by simp [binOp, Op.intBits]) rfl h
  case eql => exact runB hI (x := .bool (decide (a = b))) (by simp [binOp, Op.intCmp]; rfl) rfl (vcmp_ok h)
  case neq => exact runB hI (x := .bool (!decide (a = b))) (by simp [binOp, Op.intCmp, bne]; rfl) rfl (vcmp_not h)
  case lss => exact runB hI (x := .bool (decide (a < b))) (by simp [binOp, Op.intCmp]) rfl (vcmp_ok h)
  case leq => exact runB hI (x := .bool (decide (a ≤ b))) (by simp [binOp, Op.intCmp]) rfl (vcmp_ok h)
  case gtr => exact runB hI (x := .bool (decide (b < a))) (by simp [binOp, Op.intCmp]) rfl (vcmp_ok h)
  case geq => exact runB hI (x := .bool (decide (b ≤ a))) (by simp [binOp, Op.intCmp]) rfl (vcmp_ok h)
theorem bSS (hI : Inv G w st) (op : BinOp) (a b : ByteArray) {K : AV → Sto → Prop} (h : vSS op a b fun r => K r st) : Runs P G w (binOp op t (.string a) (.string b)) K := by
  cases op <;> simp only [vSS] at h <;> first | exact h.elim | skip
  case add => exact runB hI (by simp only [binOp]; exact run_string_add_sum w a b h.1) rfl h.2
  case eql => exact runB hI (x := .bool (decide (a = b))) (by simp only [binOp, Op.stringOp, bytes_beq]; rfl) rfl (vcmp_ok h)
  case neq => exact runB hI (x := .bool (!decide (a = b))) (by simp only [binOp, Op.stringOp, bytes_beq]; rfl) rfl (vcmp_not h)
  case lss => exact runB hI (by simp only [binOp, Op.stringOp]; rfl) rfl h
  case leq => exact runB hI (by simp only [binOp, Op.stringOp, bytes_beq]; rfl) rfl h
  case gtr => exact runB hI (by simp only [binOp, Op.stringOp, bytes_beq]; rfl) rfl h
  case geq => exact runB hI (by simp only [binOp, Op.stringOp]; rfl) rfl h
theorem eqBB (d : Nat) (a b : Bool) (h : P.underlying t = some .bool) : (Op.equal t (.bool a) (.bool b)).run P w = .ok (a == b) w := by
  simp only [Op.equal, Op.maxDepth]; exact run_equalIn_bool w 9999 t a b h
theorem bBB (hI : Inv G w st) (op : BinOp) (hu : P.underlying t = some .bool) (a b : Bool) (K : AV → Sto → Prop) (h : (op = .eql ∧ K (vB (a == b)) st) ∨ (op = .neq ∧ K (vB (a != b)) st)) : Runs P G w (binOp op t (.bool a) (.bool b)) K := by
  have he := eqBB (P := P) (w := w) 0 a b hu
  rcases h with ⟨rfl, h⟩ | ⟨rfl, h⟩
  · exact runB hI (x := .bool (a == b)) (by simp [binOp, he]) rfl h
  · exact runB hI (x := .bool (a != b)) (by simp [binOp, he, bne]) rfl h
theorem eqIn_p (d : Nat) (p : Option Addr) {e : TypeId} (h : P.underlying t = some (.pointer e)) : (Op.equalIn (d + 1) t (.pointer p) (.pointer none)).run P w = .ok p.isNone w := by
  cases p <;> simp [Op.equalIn, run_underlying h]
theorem eqIn_s (d : Nat) (a : Option Addr) (n c : Nat) {e : TypeId} (h : P.underlying t = some (.slice e)) : (Op.equalIn (d + 1) t (.slice a n c) (.slice none 0 0)).run P w = .ok a.isNone w := by
  cases a <;> simp [Op.equalIn, run_underlying h]
theorem eqNil (hI : Inv G w st) {x : AC} {u : Value} (hx : RC G w x u) {y : AC} {v : Value} (hy : RC G w y v) (hu : (y = .v (.pointer none) ∧ ∃ e, P.underlying t = some (.pointer e)) ∨ (y = .v (.slice none 0 0) ∧ ∃ e, P.underlying t = some (.slice e))) {F : Bool → Prop}
    (hk : (match x with | .ptr _ _ | .pe _ _ _ | .ep _ => y = .v (.pointer none) | .sl _ _ => y = .v (.slice none 0 0) | .v _ => x = y | _ => False)) (h : vnil x F) : ∃ b, (Op.equal t u v).run P w = .ok b w ∧ F b := by
  have key : ∀ (s : Value), (y = .v (.pointer none) → ∃ p, s = .pointer p) → (y = .v (.slice none 0 0) → ∃ a n c, s = .slice a n c) → ∃ b, (Op.equal t s v).run P w = .ok b w ∧ ((∃ p, s = .pointer p ∧ b = p.isNone) ∨ (∃ a n c, s = .slice a n c ∧ b = a.isNone)) := by
    intro s hp hs
    rcases hu with ⟨rfl, e, hu⟩ | ⟨rfl, e, hu⟩
    · obtain ⟨p, rfl⟩ := hp rfl
      cases hy
      exact ⟨_, eqIn_p 9999 p hu, .inl ⟨p, rfl, rfl⟩⟩
    · obtain ⟨a, n, c, rfl⟩ := hs rfl
      cases hy
      exact ⟨_, eqIn_s 9999 a n c hu, .inr ⟨a, n, c, rfl, rfl⟩⟩
  cases hx with
  | v q h1 =>
    dsimp only at hk
    subst hk
    rcases hu with ⟨hq, e, hu⟩ | ⟨hq, e, hu⟩
    · cases hq; cases hy
      exact ⟨true, eqIn_p 9999 none hu, h⟩
    · cases hq; cases hy
      exact ⟨true, eqIn_s 9999 none 0 0 hu, h⟩
  | ptr id off A hn ha =>
    dsimp only at hk
    obtain ⟨b, hb, h2⟩ := key (.pointer (some A)) (fun _ => ⟨_, rfl⟩) (fun h => by rw [hk] at h; cases h)
    refine ⟨b, hb, ?_⟩
    rcases h2 with ⟨p, hp, rfl⟩ | ⟨a, n, c, hp, rfl⟩ <;> cases hp
    exact h
  | pe id i j A hn ha =>
    dsimp only at hk
    obtain ⟨b, hb, h2⟩ := key (.pointer (some A)) (fun _ => ⟨_, rfl⟩) (fun h => by rw [hk] at h; cases h)
    refine ⟨b, hb, ?_⟩
    rcases h2 with ⟨p, hp, rfl⟩ | ⟨a, n, c, hp, rfl⟩ <;> cases hp
    exact h
  | ep cs g o vs hX hc hh =>
    dsimp only at hk
    obtain ⟨b, hb, h2⟩ := key (.pointer (some (adr g o))) (fun _ => ⟨_, rfl⟩) (fun h => by rw [hk] at h; cases h)
    refine ⟨b, hb, ?_⟩
    rcases h2 with ⟨p, hp, rfl⟩ | ⟨a, n, c, hp, rfl⟩ <;> cases hp
    exact h
  | sl z xs A len cap vs hl hc hm hs g o ha hcell hh =>
    dsimp only at hk
    obtain ⟨b, hb, h2⟩ := key (.slice A len cap) (fun h => by rw [hk] at h; cases h) (fun _ => ⟨_, _, _, rfl⟩)
    refine ⟨b, hb, h b fun hp => ?_⟩
    rcases h2 with ⟨p, hp, rfl⟩ | ⟨a, n, c, hp', rfl⟩
    · cases hp
    · cases hp'
      rw [(ha (by omega)).1]
      rfl
  | arr id off len A cap hn hc hm ha => exact hk.elim
  | fn f caps vs hl cv hc hh => exact hk.elim
  | yd l => exact hk.elim
  | ab F _ h => exact hk.elim
theorem bN (hI : Inv G w st) {x : AC} {u : Value} (hx : RC G w x u) {y : AC} {v : Value} (hy : RC G w y v) (op : BinOp) (hop : op = .eql ∨ op = .neq)
    (hu : (y = .v (.pointer none) ∧ ∃ e, P.underlying t = some (.pointer e)) ∨ (y = .v (.slice none 0 0) ∧ ∃ e, P.underlying t = some (.slice e)))
    (hk : (match x with | .ptr _ _ | .pe _ _ _ | .ep _ => y = .v (.pointer none) | .sl _ _ => y = .v (.slice none 0 0) | .v _ => x = y | _ => False)) {K : AV → Sto → Prop}
    (h : vnil x fun b => K (vB (if op = .eql then b else !b)) st) : Runs P G w (binOp op t u v) K := by
  obtain ⟨b, hb, hK⟩ := eqNil hI hx hy hu hk h
  have hv : (∃ p, v = .pointer p) ∨ (∃ a n c, v = .slice a n c) := by
    rcases hu with ⟨rfl, _⟩ | ⟨rfl, _⟩ <;> cases hy
    · exact .inl ⟨_, rfl⟩
    · exact .inr ⟨_, _, _, rfl⟩
  have hbin : ∀ o : BinOp, o = .eql ∨ o = .neq → binOp o t u v = (match o with | .eql => (do pure (.bool (← Op.equal t u v))) | _ => (do pure (.bool (!(← Op.equal t u v))))) := by
    intro o ho
    rcases ho with rfl | rfl <;> rcases hv with ⟨p, rfl⟩ | ⟨a, n, c, rfl⟩ <;> (cases hx <;> first | rfl | exact hk.elim | (dsimp only at hk; subst hk; rcases hu with ⟨hq, _⟩ | ⟨hq, _⟩ <;> cases hq <;> rfl))
  rcases hop with rfl | rfl
  · exact runB hI (x := .bool b) (by rw [hbin _ (.inl rfl)]; simp [hb]) rfl hK
  · exact runB hI (x := .bool (!b)) (by rw [hbin _ (.inr rfl)]; simp [hb]) rfl hK
/-- which operands a comparison's type bears -/
def typOk (d : D) (x y : AC) : Bool :=
  match d, x, y with
  | _, .v (.int _ _), .v (.int _ _) => true
  | _, .v (.string _), .v (.string _) => true
  | .b, .v (.bool _), .v (.bool _) => true
  | .pt _, .ptr _ _, .v (.pointer none) => true
  | .pt _, .pe _ _ _, .v (.pointer none) => true
  | .pt _, .ep _, .v (.pointer none) => true
  | .pt _, .v (.pointer none), .v (.pointer none) => true
  | .sl _, .sl _ _, .v (.slice none 0 0) => true
  | .sl _, .v (.slice none 0 0), .v (.slice none 0 0) => true
  | _, _, _ => false
theorem Runs.bin {T : TT} (TP : TOk P T) (hI : Inv G w st) {i : TI} (hi : T t = some i) {op : BinOp} {x y : Operand} {a b : AC} {u v : Value} (ha : RC G w a u) (hb : RC G w b v) (ht : typOk i.d a b = true) {K : AV → Sto → Prop}
    (h : vbin op a b fun r => K r st) : Runs P G w (do eqGuard op t x y u v; binOp op t u v) K := by
  have hone : u.oneCell' = true := ha.one
  have hg : (eqGuard op t x y u v).run P w = .ok () w := eqGuard_ok op t x y u v (fun a b h1 _ => by subst h1; cases hone) (fun h1 h2 => by
    subst h1
    cases ha
    all_goals unfold typOk at ht
    all_goals split at ht <;> first | (rename_i h0; cases h0) | cases ht)
  suffices hs : Runs P G w (binOp op t u v) K by
    obtain ⟨q, w', G', r, st', h1, h2⟩ := hs
    exact ⟨q, w', G', r, st', by simp [hg, h1], h2⟩
  obtain ⟨d, hu, hd⟩ := TP.u t i hi
  unfold typOk at ht
  split at ht
  · cases ha; cases hb
    simp only [vbin] at h
    split at h
    · exact runB hI (by simp [binOp, Op.shift, show ¬ _ < (0 : Int) from Int.not_lt.2 h.1]) rfl h.2
    · exact runB hI (by simp [binOp, Op.shift, show ¬ _ < (0 : Int) from Int.not_lt.2 h.1]) rfl h.2
    · rename_i h1 h2
      split at h
      · rename_i hk; subst hk
        exact bII hI op _ _ _ h1 h2 h
      · exact h.elim
  · cases ha; cases hb
    exact bSS hI op _ _ h
  · rename_i hdd
    cases ha; cases hb
    rw [hdd] at hd
    subst hd
    simp only [vbin] at h
    split at h
    · exact bBB hI _ hu _ _ K (.inl ⟨rfl, by simpa [onB_iff] using h⟩)
    · exact bBB hI _ hu _ _ K (.inr ⟨rfl, by simpa [onB_iff] using h⟩)
    · exact h.elim
  all_goals first
    | cases ht; done
    | (rename_i hdd; rw [hdd] at hd; subst hd
       simp only [vbin] at h
       split at h
       · exact bN hI ha hb _ (.inl rfl) (by first | exact .inl ⟨rfl, _, hu⟩ | exact .inr ⟨rfl, _, hu⟩) rfl (by simpa [isNil] using h)
       · exact bN hI ha hb _ (.inr rfl) (by first | exact .inl ⟨rfl, _, hu⟩ | exact .inr ⟨rfl, _, hu⟩) rfl (by simpa [isNil] using h)
       · exact h.elim)
end
end Go.Proofs.YtnafgpgbedcdnaaDoor.D.Pm
namespace Go.Proofs.YtnafgpgbedcdnaaDoor.D.Pm
set_option linter.unusedVariables false
set_option linter.unusedSimpArgs false
open Go
inductive F2 {α β : Type} (R : α → β → Prop) : List α → List β → Prop
  | nil : F2 R [] []
  | cons {a : α} {b : β} {l : List α} {m : List β} (h : R a b) (t : F2 R l m) : F2 R (a :: l) (b :: m)
theorem foldl_put (off : Nat) : ∀ (l : List Value) (k : Nat) (cs : Array Value), off + k + l.length ≤ cs.size →
    ((l.zipIdx k).foldl (fun (cs : Array Value) (p : Value × Nat) => cs.setIfInBounds (off + p.2) p.1) cs).toList = putAt cs.toList (off + k) l
  | [], k, cs, h => by simp [putAt]
  | v :: l, k, cs, h => by
    rw [List.zipIdx_cons, List.foldl_cons, foldl_put off l (k + 1) _ (by simp at h ⊢; omega)]
    apply List.ext_getElem?
    intro j
    simp only [List.length_cons] at h
    rw [putAt_get _ _ _ (by simp; omega), putAt_get _ _ _ (by simp; omega)]
    simp only [List.length_cons, Array.toList_setIfInBounds, List.getElem?_set, Array.length_toList]
    by_cases h1 : j < off + k
    · rw [if_pos h1, if_pos (by omega), if_neg (by omega)]
    · rw [if_neg h1]
      by_cases h2 : j = off + k
      · subst h2
        rw [if_pos (by omega), if_pos rfl, if_pos (by omega), if_pos (by omega)]
        simp
      · rw [if_neg (by omega)]
        by_cases h3 : j < off + k + (l.length + 1)
        · rw [if_pos (by omega), if_pos h3, show j - (off + k) = (j - (off + (k + 1))) + 1 by omega, List.getElem?_cons_succ]
        · rw [if_neg (by omega), if_neg (by omega), if_neg h3]
def fillC (place : Nat → Option (Nat × Nat)) (cells : List AC) : List (Nat × AV) → Option (List AC)
  | [] => some cells
  | (i, r) :: rest => match place i with
    | none => none
    | some (off, size) => match r with
      | .t _ => none
      | r => if (avc r).length = size ∧ off + size ≤ cells.length then fillC place (putAt cells off (avc r)) rest else none
/-- cells and values, side by side -/
def Rel2 (G : Gh) (w : World) (cs : List AC) (vs : List Value) : Prop := vs.length = cs.length ∧ ∀ (j : Nat) c v, cs[j]? = some c → vs[j]? = some v → RC G w c v
theorem Rel2.put {G : Gh} {w : World} {cs : List AC} {vs : List Value} (h : Rel2 G w cs vs) {p : Nat} {as : List AC} {us : List Value} (h' : Rel2 G w as us) (hl : p + as.length ≤ cs.length) : Rel2 G w (putAt cs p as) (putAt vs p us) := by
  have e1 := h.1
  have e2 := h'.1
  refine ⟨by rw [putAt_length _ _ _ (by omega), putAt_length _ _ _ hl, e1], fun j c v hc hv => ?_⟩
  rw [putAt_get _ _ _ hl] at hc
  rw [putAt_get _ _ _ (by omega)] at hv
  by_cases a : j < p
  · rw [if_pos a] at hc hv; exact h.2 j c v hc hv
  · rw [if_neg a] at hc hv
    rw [e2] at hv
    by_cases b : j < p + as.length
    · rw [if_pos b] at hc hv; exact h'.2 _ c v hc hv
    · rw [if_neg b] at hc hv; exact h.2 j c v hc hv
theorem rel_of {G : Gh} {w : World} {r : AV} {v : Value} (h : RV G w r v) (ht : ∀ l, r ≠ .t l) : Rel2 G w (avc r) v.cells.toList := by
  obtain ⟨h1, h2, _⟩ := avc_ok h ht
  exact ⟨by simpa using h1, h2⟩
theorem fill_ok {G : Gh} {w : World} {place : Nat → Option (Nat × Nat)} : ∀ {parts : List (Nat × AV)} {vs : List (Nat × Value)} {cells : List AC} {cur : Array Value} {out : List AC}, Rel2 G w cells cur.toList →
    F2 (fun p q => p.1 = q.1 ∧ RV G w p.2 q.2) parts vs → fillC place cells parts = some out → ∃ arr, Instr.fill place cur vs = some arr ∧ Rel2 G w out arr.toList
  | [], _, cells, cur, out, hr, hf, h => by cases hf; cases h; exact ⟨cur, rfl, hr⟩
  | (i, r) :: rest, _, cells, cur, out, hr, hf, h => by
    cases hf with
    | cons hp hrest =>
      rename_i q vs
      obtain ⟨i', v⟩ := q
      obtain ⟨rfl, hv⟩ := hp
      simp only [fillC] at h
      cases hpl : place i with
      | none => rw [hpl] at h; cases h
      | some os =>
        obtain ⟨off, size⟩ := os
        rw [hpl] at h
        dsimp only at h
        have ht : ∀ l, r ≠ .t l := fun l e => by subst e; cases h
        have h' : (if (avc r).length = size ∧ off + size ≤ cells.length then fillC place (putAt cells off (avc r)) rest else none) = some out := by
          cases r with
          | t l => exact absurd rfl (ht l)
          | c x => exact h
          | g cs => exact h
        split at h'
        · rename_i hc
          have hrel := rel_of hv ht
          have hl1 := hrel.1
          have hl0 := hr.1
          have hput := foldl_put off v.cells.toList 0 cur (by simp at hl0 hl1 ⊢; omega)
          have hnext : Rel2 G w (putAt cells off (avc r)) (v.cells.zipIdx.foldl (fun cs (c, j) => cs.setIfInBounds (off + j) c) cur).toList := by
            have e : (v.cells.zipIdx.foldl (fun cs (c, j) => cs.setIfInBounds (off + j) c) cur).toList = putAt cur.toList off v.cells.toList := by
              rw [← Array.foldl_toList, Array.toList_zipIdx]
              exact hput
            rw [e]
            exact hr.put hrel (by omega)
          obtain ⟨arr, ha, hb⟩ := fill_ok hnext hrest h'
          refine ⟨arr, ?_, hb⟩
          unfold Instr.fill
          rw [hpl]
          dsimp only
          have hc1 : v.cells.size = size := by simp at hl1; omega
          rw [if_neg (by simp only [ne_eq, hc1, not_true_eq_false, Bool.or_eq_true, decide_eq_true_eq, false_or, Nat.not_lt, decide_not]; simp at hl0 ⊢; omega)]
          exact ha
        · cases h'
def plc (T : TT) (fs : List (Nat × TypeId)) (i : Nat) : Option (Nat × Nat) :=
  match fs[i]? with
  | some (o, t) => match T t with
    | some j => some (o, j.size)
    | none => none
  | none => none
theorem places_ok {P : Program} {T : TT} (TP : TOk P T) : ∀ {l : List Field}, ((l.map (fun f => (f.offset, f.type))).all (fun p => (T p.2).isSome)) = true →
    ∃ places, l.mapM (fun f => (P.info? f.type).map fun i => (f.offset, i.size)) = some places ∧ ∀ i, places[i]? = plc T (l.map (fun f => (f.offset, f.type))) i
  | [], _ => ⟨[], rfl, fun i => by simp [plc]⟩
  | f :: l, h => by
    simp only [List.map_cons, List.all_cons, Bool.and_eq_true] at h
    obtain ⟨ps, h1, h2⟩ := places_ok TP h.2
    obtain ⟨j, hj⟩ := Option.isSome_iff_exists.1 h.1
    obtain ⟨n, hn, hs, _⟩ := TP.info hj
    refine ⟨(f.offset, j.size) :: ps, by simp [hn, h1, hs], fun i => ?_⟩
    cases i with
    | zero => simp [plc, hj]
    | succ i => simpa [plc] using h2 i
theorem Runs.build {P : Program} {T : TT} (TP : TOk P T) {G : Gh} {w : World} {st : Sto} (hI : Inv G w st) {t : TypeId} {i : TI} (hi : T t = some i) {fs : List (Nat × TypeId)} (hd : i.d = .st fs) (hall : fs.all (fun p => (T p.2).isSome) = true)
    {parts : List (Nat × AV)} {vs : Array (Nat × Value)} (hp : F2 (fun p q => p.1 = q.1 ∧ RV G w p.2 q.2) parts vs.toList) {out : List AC} (ho : fillC (plc T fs) (i.z.map .v) parts = some out) {K : AV → Sto → Prop} (hk : K (.g out) st) :
    Runs P G w (Instr.build t vs) K := by
  obtain ⟨d, hu, hdd⟩ := TP.u t i hi
  rw [hd] at hdd
  obtain ⟨arr, rfl, harr⟩ := hdd
  obtain ⟨n, hn, hns, hnb, ⟨z, hz, hzc, _⟩, hzl, hzo⟩ := TP.f t i hi
  rw [← harr] at hall ho
  obtain ⟨places, hp1, hp2⟩ := places_ok TP hall
  have hpl : plc T (arr.toList.map (fun f => (f.offset, f.type))) = (places.toArray[·]?) := by
    funext q
    rw [← hp2 q]; simp
  rw [hpl] at ho
  have hr0 : Rel2 G w (i.z.map AC.v) z.cells.toList := by
    refine ⟨by rw [hzc, List.length_map], fun j c x hc hx => ?_⟩
    rw [hzc] at hx
    rw [List.getElem?_map, hx] at hc
    cases hc
    exact .v x (hzo x (List.mem_of_getElem? hx))
  obtain ⟨cells, hc, hrel⟩ := fill_ok hr0 hp ho
  refine .pure hI (run_build w t vs cells ?_) hk (.g _ _ (by have := hrel.1; simpa using this) (fun j c v a b => hrel.2 j c v a (by simpa using b)))
  unfold Program.built
  simp only [hn, hu, hz, hp1]
  exact hc
theorem rep_get {α : Type} (l : List α) : ∀ (n j : Nat), (List.replicate n l).flatten[j]? = if j < n * l.length then l[j % l.length]? else none
  | 0, j => by simp
  | n + 1, j => by
    rw [List.replicate_succ, List.flatten_cons]
    by_cases h : j < l.length
    · rw [List.getElem?_append_left h, if_pos (by rw [Nat.succ_mul]; omega), Nat.mod_eq_of_lt h]
    · rw [List.getElem?_append_right (by omega), rep_get l n (j - l.length)]
      by_cases h2 : j < (n + 1) * l.length
      · rw [if_pos (by rw [Nat.succ_mul] at h2; omega), if_pos h2, Nat.mod_eq_sub_mod (show j ≥ l.length by omega)]
      · rw [if_neg (by rw [Nat.succ_mul] at h2; omega), if_neg h2]
theorem zeros_ok {G : Gh} {w : World} {z : List Value} (hz : ∀ x ∈ z, x.oneCell' = true) (za : Array Value) (hza : za.toList = z) (n : Nat) : Rel2 G w (List.replicate n (z.map AC.v)).flatten ((Array.range (n * z.length)).map (za[· % za.size]!)).toList := by
  have hs : za.size = z.length := by rw [← hza]; simp
  refine ⟨by simp, fun j c v hc hv => ?_⟩
  rw [rep_get, List.length_map] at hc
  split at hc
  · rename_i hj
    have hp : 0 < z.length := by rcases Nat.eq_zero_or_pos z.length with h | h; rw [h] at hj; simp at hj; exact h
    have hm : j % z.length < z.length := Nat.mod_lt _ hp
    rw [List.getElem?_map] at hc
    have hv' : v = z[j % z.length] := by
      simp [hj] at hv
      rw [hs] at hv
      have hb : j % z.length < za.size := by rw [hs]; exact hm
      rw [getElem!_pos za _ hb] at hv
      rw [← hv]
      subst hza
      simp
    rw [List.getElem?_eq_getElem hm] at hc
    cases hc
    rw [hv']
    exact .v _ (hz _ (List.getElem_mem ..))
  · cases hc
end Go.Proofs.YtnafgpgbedcdnaaDoor.D.Pm
namespace Go.Proofs.YtnafgpgbedcdnaaDoor.D.Pm
set_option linter.unusedVariables false
set_option linter.unusedSimpArgs false
open Go
def RVs (G : Gh) (w : World) (as : List AV) (vs : Array Value) : Prop := vs.size = as.length ∧ ∀ (j : Nat) r v, as[j]? = some r → vs[j]? = some v → RV G w r v
/-- a call comes to a value -/
structure Does (P : Program) (f : FuncId) (as : List AV) (st : Sto) (K : AV → Sto → Prop) : Prop where
  mk ::
  fn : ∃ fn c, P.funcs[f]? = some fn ∧ fn.body = some c ∧ (fn.name == "runtime.NumGoroutine") = false
  out : ∀ G w vs, Inv G w st → RVs G w as vs → Calls P f vs w fun e w' => ∃ G' r st' v, K r st' ∧ e = .returned v ∧ Ext G w G' w' ∧ Inv G' w' st' ∧ RV G' w' r v
theorem Does.mono {P : Program} {f : FuncId} {as : List AV} {st : Sto} {K K' : AV → Sto → Prop} (h : Does P f as st K) (hk : ∀ r s, K r s → K' r s) : Does P f as st K' :=
  ⟨h.fn, fun G w vs hI hv => (h.out G w vs hI hv).mono fun e w' ⟨G', r, s, v, h1, h2⟩ => ⟨G', r, s, v, hk _ _ h1, h2⟩⟩
def evs (env : Env) : List Operand → Option (List AV)
  | [] => some []
  | x :: r => match ev env x with
    | some a => match evs env r with
      | some l => some (a :: l)
      | none => none
    | none => none
theorem evs_ok {N : Nat} {G : Gh} {w : World} {env : Env} {a : Act} (h : RE N G w env a) : ∀ {xs : List Operand} {rs : List AV}, evs env xs = some rs → RVs G w rs (xs.toArray.map a.eval)
  | [], rs, hx => by simp [evs] at hx; subst hx; exact ⟨by simp, fun j r v h => by simp at h⟩
  | x :: xs, rs, hx => by
    simp only [evs] at hx
    cases h1 : ev env x with
    | none => rw [h1] at hx; cases hx
    | some r =>
      rw [h1] at hx
      dsimp only at hx
      cases h2 : evs env xs with
      | none => rw [h2] at hx; cases hx
      | some l =>
        rw [h2] at hx
        cases hx
        obtain ⟨h3, h4⟩ := evs_ok h h2
        refine ⟨by simpa using h3, fun j r' v hr hv => ?_⟩
        cases j with
        | zero =>
          simp at hr hv
          subst hr; subst hv
          exact ev_ok h h1
        | succ j =>
          have hv' : (xs.toArray.map a.eval)[j]? = some v := by simpa using hv
          exact h4 j r' v (by simpa using hr) hv'
/-- the rows of what is appended, as they lie -/
def srcv (st : Sto) (sz : Nat) (y : AC) (F : List (List AC) → Prop) : Prop :=
  match y with
  | .sl z ys => if z = sz then F ys else False
  | .arr id off len => ∃ rows, st id = some (.ar sz rows) ∧ off + len ≤ rows.length ∧ F ((rows.drop off).take len)
  | .v (.slice none 0 0) => F []
  | .v (.string s) => if sz = 1 then F (byc s) else False
  | _ => False
theorem srcv_ok {st : Sto} {sz : Nat} {y : AC} {F : List (List AC) → Prop} (h : srcv st sz y F) : ∃ ys, srcp st sz y = some ys ∧ F ys := by
  unfold srcv at h
  split at h
  · split at h
    · rename_i hz; exact ⟨_, by simp [srcp, hz], h⟩
    · exact h.elim
  · obtain ⟨rows, h1, h2, h3⟩ := h
    exact ⟨_, by simp [srcp, h1, h2], h3⟩
  · exact ⟨_, rfl, h⟩
  · split at h
    · rename_i hz; exact ⟨_, by simp [srcp, hz], h⟩
    · exact h.elim
  · exact h.elim
def rdv (st : Sto) (p : AC) (F : List AC → Prop) : Prop :=
  match p with
  | .ptr id off => ∃ cs, st id = some (.bx cs) ∧ F (cs.drop off)
  | .pe id i j => ∃ z rows r, st id = some (.ar z rows) ∧ rows[i]? = some r ∧ F (r.drop j)
  | .ep cs => F cs
  | _ => False
theorem rdv_ok {st : Sto} {p : AC} {F : List AC → Prop} (h : rdv st p F) : ∃ cs, rdp st p = some cs ∧ F cs := by
  unfold rdv at h
  split at h
  · obtain ⟨cs, h1, h2⟩ := h; exact ⟨_, by simp [rdp, h1], h2⟩
  · obtain ⟨z, rows, r, h1, h2, h3⟩ := h; exact ⟨_, by simp [rdp, h1, h2], h3⟩
  · exact ⟨_, rfl, h⟩
  · exact h.elim
def wrv (st : Sto) (p : AC) (vs : List AC) (F : Sto → Prop) : Prop :=
  match p with
  | .ptr id off => ∃ cs, st id = some (.bx cs) ∧ off + vs.length ≤ cs.length ∧ F (upd st id (.bx (putAt cs off vs)))
  | .pe id i j => ∃ sz rows r, st id = some (.ar sz rows) ∧ rows[i]? = some r ∧ j + vs.length ≤ r.length ∧ F (upd st id (.ar sz (rows.set i (putAt r j vs))))
  | _ => False
theorem wrv_ok {st : Sto} {p : AC} {vs : List AC} {F : Sto → Prop} (h : wrv st p vs F) : ∃ id o, wrp st p vs = some (id, o) ∧ F (upd st id o) := by
  unfold wrv at h
  split at h
  · obtain ⟨cs, h1, h2, h3⟩ := h; exact ⟨_, _, by simp only [wrp, h1, if_pos h2], h3⟩
  · obtain ⟨sz, rows, r, h1, h2, h3, h4⟩ := h; exact ⟨_, _, by simp only [wrp, h1, h2, if_pos h3], h4⟩
  · exact h.elim
def ixv (st : Sto) (sz : Nat) (x : AC) (i : Int) (F : AC → Prop) : Prop :=
  match x with
  | .sl z xs => if z = sz then 0 ≤ i ∧ i < xs.length ∧ ∃ r, xs[i.toNat]? = some r ∧ F (.ep r) else False
  | .arr id off len => 0 ≤ i ∧ i < len ∧ (∃ rows, st id = some (.ar sz rows)) ∧ F (.pe id (off + i.toNat) 0)
  | _ => False
theorem ixv_ok {st : Sto} {sz : Nat} {x : AC} {i : Int} {F : AC → Prop} (h : ixv st sz x i F) : ixp st sz x i F := by
  unfold ixv at h
  split at h
  · split at h
    · rename_i hz; exact ⟨hz, h⟩
    · exact h.elim
  · obtain ⟨h1, h2, ⟨rows, h3⟩, h4⟩ := h; exact ⟨h1, h2, ⟨sz, rows, h3, rfl⟩, h4⟩
  · exact h.elim
/-- the bounds of a cut -/
def bd (env : Env) (x : Option Operand) (d : Int) (Q : Int → Prop) : Prop :=
  match x with
  | none => Q d
  | some x => onO (ev env x) fun r => match r with
    | .c (.v (.int _ h)) => Q h
    | _ => False
def bnd (env : Env) (lo hi : Option Operand) (n : Nat) (F : Nat → Nat → Prop) : Prop :=
  bd env hi n fun h => bd env lo 0 fun l => 0 ≤ l ∧ l ≤ h ∧ h ≤ n ∧ F l.toNat h.toNat
def ntup (r : AV) (F : Prop) : Prop :=
  match r with
  | .t _ => False
  | _ => F
def parts (env : Env) : List (Nat × Operand) → Option (List (Nat × AV))
  | [] => some []
  | (i, x) :: r => match ev env x with
    | some a => match parts env r with
      | some l => some ((i, a) :: l)
      | none => none
    | none => none
theorem parts_ok {N : Nat} {G : Gh} {w : World} {env : Env} {a : Act} (h : RE N G w env a) : ∀ {xs : List (Nat × Operand)} {rs : List (Nat × AV)}, parts env xs = some rs → F2 (fun p q => p.1 = q.1 ∧ RV G w p.2 q.2) rs (xs.map fun (i, x) => (i, a.eval x))
  | [], rs, hx => by simp [parts] at hx; subst hx; exact .nil
  | (i, x) :: xs, rs, hx => by
    simp only [parts] at hx
    cases h1 : ev env x with
    | none => rw [h1] at hx; cases hx
    | some r =>
      rw [h1] at hx
      dsimp only at hx
      cases h2 : parts env xs with
      | none => rw [h2] at hx; cases hx
      | some l =>
        rw [h2] at hx
        cases hx
        exact .cons ⟨rfl, ev_ok h h1⟩ (parts_ok h h2)
/-- rows put into rows -/
def fillR (sz : Nat) (rows : List (List AC)) : List (Nat × AV) → Option (List (List AC))
  | [] => some rows
  | (i, r) :: rest => match r with
    | .t _ => none
    | r => if (avc r).length = sz ∧ i < rows.length then fillR sz (rows.set i (avc r)) rest else none
theorem fillR_ok {G : Gh} {w : World} {sz : Nat} : ∀ {ps : List (Nat × AV)} {vs : List (Nat × Value)} {rows : List (List AC)} {cur : Array Value} {out : List (List AC)}, (∀ q ∈ rows, q.length = sz) → Rel2 G w rows.flatten cur.toList →
    F2 (fun p q => p.1 = q.1 ∧ RV G w p.2 q.2) ps vs → fillR sz rows ps = some out → ∃ arr, Instr.fill (fun i => some (i * sz, sz)) cur vs = some arr ∧ (∀ q ∈ out, q.length = sz) ∧ out.length = rows.length ∧ Rel2 G w out.flatten arr.toList
  | [], _, rows, cur, out, hq, hr, hf, h => by cases hf; cases h; exact ⟨cur, rfl, hq, rfl, hr⟩
  | (i, r) :: rest, _, rows, cur, out, hq, hr, hf, h => by
    cases hf with
    | cons hp hrest =>
      rename_i q vs
      obtain ⟨i', v⟩ := q
      obtain ⟨rfl, hv⟩ := hp
      simp only [fillR] at h
      have ht : ∀ l, r ≠ .t l := fun l e => by subst e; cases h
      have h' : (if (avc r).length = sz ∧ i < rows.length then fillR sz (rows.set i (avc r)) rest else none) = some out := by
        cases r with
        | t l => exact absurd rfl (ht l)
        | c x => exact h
        | g cs => exact h
      split at h'
      · rename_i hc
        have hrel := rel_of hv ht
        have hl1 := hrel.1
        have hl0 := hr.1
        have hfl := flat_len hq
        have hb : i * sz + sz ≤ rows.flatten.length := by
          rw [hfl, ← Nat.succ_mul]; exact Nat.mul_le_mul_right _ hc.2
        have hcs : cur.size = rows.flatten.length := by rw [← hl0]; exact (Array.length_toList ..).symm
        have hvs : v.cells.size = (avc r).length := by rw [← hl1]; exact (Array.length_toList ..).symm
        have hc0 : (avc r).length = sz := hc.1
        have hput := foldl_put (i * sz) v.cells.toList 0 cur (by rw [Array.length_toList]; omega)
        have e : (v.cells.zipIdx.foldl (fun cs (c, j) => cs.setIfInBounds (i * sz + j) c) cur).toList = putAt cur.toList (i * sz) v.cells.toList := by
          rw [← Array.foldl_toList, Array.toList_zipIdx]
          exact hput
        have hri : rows[i]? = some rows[i] := List.getElem?_eq_getElem hc.2
        have hflat : (rows.set i (avc r)).flatten = putAt rows.flatten (i * sz) (avc r) := by
          apply List.ext_getElem?
          intro k
          rw [flatten_set hq hri hc.1 k, putAt_get _ _ _ (by omega)]
          by_cases a : k < i * sz
          · rw [if_neg (by omega), if_pos a]
          · rw [if_neg a]
            by_cases b : k < i * sz + (avc r).length
            · rw [if_pos (by omega), if_pos b]
            · rw [if_neg (by omega), if_neg b]
        have hnext : Rel2 G w (rows.set i (avc r)).flatten (v.cells.zipIdx.foldl (fun cs (c, j) => cs.setIfInBounds (i * sz + j) c) cur).toList := by
          rw [e, hflat]
          exact hr.put hrel (by omega)
        have hq' : ∀ q ∈ rows.set i (avc r), q.length = sz := fun q hqq => by
          rcases List.mem_or_eq_of_mem_set hqq with h | h
          · exact hq q h
          · rw [h]; exact hc.1
        obtain ⟨arr, ha, hb1, hb2, hb3⟩ := fillR_ok hq' hnext hrest h'
        refine ⟨arr, ?_, hb1, by rw [hb2, List.length_set], hb3⟩
        unfold Instr.fill
        dsimp only
        have hc1 : v.cells.size = sz := by omega
        rw [if_neg (by simp only [ne_eq, hc1, not_true_eq_false, Bool.or_eq_true, decide_eq_true_eq, false_or, Nat.not_lt, decide_not]; omega)]
        exact ha
      · cases h'
end Go.Proofs.YtnafgpgbedcdnaaDoor.D.Pm
namespace Go.Proofs.YtnafgpgbedcdnaaDoor.D.Pm
set_option linter.unusedVariables false
set_option linter.unusedSimpArgs false
open Go
/-- the places in a struct or an array -/
def plcs (T : TT) : D → Option (List (Nat × TypeId))
  | .st fs => some fs
  | .ay n e => match T e with
    | some z => some ((List.range n).map fun k => (k * z.size, e))
    | none => none
  | _ => none
theorem fillC_mono {p p' : Nat → Option (Nat × Nat)} (h : ∀ i q, p i = some q → p' i = some q) : ∀ {parts : List (Nat × AV)} {cells out : List AC}, fillC p cells parts = some out → fillC p' cells parts = some out
  | [], cells, out, hf => hf
  | (i, r) :: rest, cells, out, hf => by
    unfold fillC at hf ⊢
    cases hp : p i with
    | none => rw [hp] at hf; cases hf
    | some q =>
      rw [hp] at hf
      rw [h i q hp]
      dsimp only at hf ⊢
      split at hf
      · cases hf
      · split at hf
        · rename_i hc
          rw [if_pos hc]
          exact fillC_mono h hf
        · cases hf
theorem und_ay {P : Program} {T : TT} (TP : TOk P T) {t e : TypeId} {n : Nat} {i : TI} (h : T t = some i) (hd : i.d = .ay n e) : P.underlying t = some (.array n e) := by
  obtain ⟨d, h1, h2⟩ := TP.u t i h
  rw [hd] at h2; rw [h1]; exact congrArg some h2
theorem Runs.buildA {P : Program} {T : TT} (TP : TOk P T) {G : Gh} {w : World} {st : Sto} (hI : Inv G w st) {t : TypeId} {i : TI} (hi : T t = some i) {fs : List (Nat × TypeId)} (hd : plcs T i.d = some fs) (hall : fs.all (fun p => (T p.2).isSome) = true)
    {parts : List (Nat × AV)} {vs : Array (Nat × Value)} (hp : F2 (fun p q => p.1 = q.1 ∧ RV G w p.2 q.2) parts vs.toList) {out : List AC} (ho : fillC (plc T fs) (i.z.map .v) parts = some out) {K : AV → Sto → Prop} (hk : K (.g out) st) :
    Runs P G w (Instr.build t vs) K := by
  unfold plcs at hd
  split at hd
  · rename_i he
    cases hd
    exact Runs.build TP hI hi he hall hp ho hk
  · rename_i n e he
    split at hd
    · rename_i z hz
      cases hd
      have hu := und_ay TP hi he
      obtain ⟨zv, hz1, hz2, hz3, hz4, hz5⟩ := zero_ok TP (G := G) (w := w) hi
      have hr0 : Rel2 G w (i.z.map AC.v) zv.cells.toList := by
        refine ⟨by rw [hz2, List.length_map], fun j c x hc hx => hz5 j c x hc hx⟩
      have ho' := fillC_mono (p' := fun k => some (k * z.size, z.size)) (by
        intro k q hk
        unfold plc at hk
        split at hk
        · rename_i o u hq
          rw [List.getElem?_map] at hq
          cases hr : (List.range n)[k]? with
          | none => rw [hr] at hq; cases hq
          | some k' =>
            rw [hr] at hq
            have : k' = k := by
              have h3 := List.getElem?_eq_some_iff.1 hr
              obtain ⟨h4, h5⟩ := h3
              rw [List.getElem_range] at h5
              exact h5.symm
            subst this
            cases hq
            split at hk
            · rename_i j hj
              rw [hz] at hj
              cases hj
              exact hk
            · cases hk
        · cases hk) ho
      obtain ⟨cells, hc, hrel⟩ := fill_ok hr0 hp ho'
      have hs := run_size TP (w := w) hz
      refine .pure hI (v := .agg cells) ?_ hk (.g _ _ (by have := hrel.1; simpa using this) (fun j c v a b => hrel.2 j c v a (by simpa using b)))
      simp only [Instr.build, Sem.run_bind, hz1, run_underlying hu, hs, Result.andThen, hc]
      rfl
    · cases hd
  · cases hd
/-- a part of a value -/
theorem part_ok {P : Program} {T : TT} (TP : TOk P T) {G : Gh} {w : World} {cs : List AC} {vs : Array Value} (h : vs.size = cs.length ∧ ∀ (j : Nat) c v, cs[j]? = some c → vs[j]? = some v → RC G w c v) {t : TypeId} {o : Nat} {r : AV} (hr : ldc T t (cs.drop o) = some r) :
    ∃ v, (part t vs o).run P w = .ok v w ∧ RV G w r v := by
  unfold ldc at hr
  cases hi : T t with
  | none => rw [hi] at hr; cases hr
  | some i =>
    rw [hi] at hr
    dsimp only at hr
    have ha := run_agg TP (w := w) hi
    have hz := run_size TP (w := w) hi
    by_cases hg : i.d.agg = true
    · rw [if_pos hg] at hr
      by_cases hn : i.size ≤ (cs.drop o).length
      · rw [if_pos hn] at hr
        cases hr
        rw [List.length_drop] at hn
        refine ⟨.agg (vs.extract o (o + i.size)), by simp [part, ha, hg, hz], .g _ _ (by simp [h.1]; omega) (fun j c v a b => ?_)⟩
        rw [List.getElem?_take, List.getElem?_drop] at a
        split at a
        · refine h.2 (o + j) c v a ?_
          rw [Array.getElem?_extract] at b
          split at b
          · exact b
          · cases b
        · cases a
      · rw [if_neg hn] at hr; cases hr
    · rw [if_neg hg] at hr
      have hg' : i.d.agg = false := by simpa using hg
      have : (cs.drop o).head? = cs[o]? := by rw [List.head?_drop]
      rw [this] at hr
      cases hc : cs[o]? with
      | none => rw [hc] at hr; cases hr
      | some c =>
        rw [hc] at hr
        cases hr
        have ho : o < vs.size := by rw [h.1]; exact (List.getElem?_eq_some_iff.1 hc).1
        refine ⟨vs[o], by simp [part, ha, hg', Array.getElem?_eq_getElem ho], .c _ _ (h.2 o c _ hc (Array.getElem?_eq_getElem ho))⟩
theorem run_indexA {P : Program} {T : TT} (TP : TOk P T) {w : World} {t e : TypeId} {n : Nat} {i z : TI} (h : T t = some i) (hd : i.d = .ay n e) (hz : T e = some z) {k : IntKind} {x : Int} (h0 : 0 ≤ x) (h1 : x < n) {vs : Array Value} {v : Value} (hp : (part e vs (x.toNat * z.size)).run P w = .ok v w) :
    (Instr.index t (.agg vs) (.int k x)).run P w = .ok v w := by
  have hu := und_ay TP h hd
  have hs := run_size TP (w := w) hz
  simp [Instr.index, asIntOf, run_underlying hu, hs, h0, h1, hp]
/-! ### structs held against one another -/
def fldEq (T : TT) (t : TypeId) (x y : AC) (F : Prop → Prop) : Prop :=
  match T t with
  | some i => match i.d, x, y with
    | .b, .v (.bool a), .v (.bool b) => F (a = b)
    | .i _, .v (.int k a), .v (.int k' b) => if k = k' then F (a = b) else False
    | .s, .v (.string a), .v (.string b) => F (a = b)
    | _, _, _ => False
  | none => False
def eqP (T : TT) (xs ys : List AC) : List (Nat × TypeId) → (Prop → Prop) → Prop
  | [], F => F True
  | (o, t) :: r, F => match xs[o]?, ys[o]? with
    | some x, some y => fldEq T t x y fun p => eqP T xs ys r fun q => F (p ∧ q)
    | _, _ => False
theorem eqf_one {P : Program} {w : World} {d : Nat} {xs ys : Array Value} {f : Field} {fs : List Field} {a b : Value} {r s : Bool} (hn : f.name ≠ "_") (ha : (part f.type xs f.offset).run P w = .ok a w) (hb : (part f.type ys f.offset).run P w = .ok b w)
    (he : (Op.equalIn d f.type a b).run P w = .ok r w) (hr : (Op.eqFields d xs ys fs).run P w = .ok s w) : (Op.eqFields d xs ys (f :: fs)).run P w = .ok (r && s) w := by
  rw [Op.eqFields]
  simp only [if_pos hn, Sem.run_bind, ha, hb, he, Result.andThen_ok]
  cases r
  · simp
  · simpa using hr
theorem eqP_ok {P : Program} {T : TT} (TP : TOk P T) {G : Gh} {w : World} {d : Nat} {cs ds : List AC} {xs ys : Array Value} (hx : xs.size = cs.length ∧ ∀ (j : Nat) c v, cs[j]? = some c → xs[j]? = some v → RC G w c v) (hy : ys.size = ds.length ∧ ∀ (j : Nat) c v, ds[j]? = some c → ys[j]? = some v → RC G w c v) :
    ∀ {fs : List Field} (F : Prop → Prop), (∀ f ∈ fs, f.name ≠ "_") → eqP T cs ds (fs.map fun f => (f.offset, f.type)) F → ∃ (p : Prop) (b : Bool), F p ∧ (b = true ↔ p) ∧ (Op.eqFields (d + 1) xs ys fs).run P w = .ok b w
  | [], F, _, h => ⟨True, true, h, by simp, by simp [Op.eqFields]⟩
  | f :: fs, F, hn, h => by
    simp only [List.map_cons, eqP] at h
    split at h
    · rename_i x y h1 h2
      unfold fldEq at h
      split at h
      · rename_i i hi
        have hg : i.d.agg = false → ∀ (zs : Array Value) (es : List AC) (v : Value), (zs.size = es.length ∧ ∀ (j : Nat) c v, es[j]? = some c → zs[j]? = some v → RC G w c v) → es[f.offset]? = some (.v v) → (part f.type zs f.offset).run P w = .ok v w := fun hg zs es v hz he => by
          have ha := run_agg TP (w := w) hi
          have ho : f.offset < zs.size := by rw [hz.1]; exact (List.getElem?_eq_some_iff.1 he).1
          have hr := hz.2 _ _ _ he (Array.getElem?_eq_getElem ho)
          cases hr
          simp [part, ha, hg, Array.getElem?_eq_getElem ho]
        obtain ⟨dd, hu, hdd⟩ := TP.u _ _ hi
        split at h
        · rename_i hd
          obtain ⟨p, b, k1, k2, k3⟩ := eqP_ok TP hx hy (fs := fs) _ (fun g hg => hn g (List.mem_cons_of_mem _ hg)) h
          rw [hd] at hg hdd
          simp only [D.is] at hdd
          subst hdd
          rename_i a b0
          refine ⟨_, _, k1, ?_, eqf_one (r := a == b0) (hn f (List.mem_cons_self ..)) (hg rfl xs cs _ hx h1) (hg rfl ys ds _ hy h2) (by simp [Op.equalIn, run_underlying hu]) k3⟩
          rw [Bool.and_eq_true, k2]; simp
        · rename_i k0 k a k' b0 hd
          split at h; rotate_left; exact h.elim
          rename_i hkk
          subst hkk
          obtain ⟨p, b, k1, k2, k3⟩ := eqP_ok TP hx hy (fs := fs) _ (fun g hg => hn g (List.mem_cons_of_mem _ hg)) h
          rw [hd] at hg hdd
          simp only [D.is] at hdd
          subst hdd
          refine ⟨_, _, k1, ?_, eqf_one (r := a == b0) (hn f (List.mem_cons_self ..)) (hg rfl xs cs _ hx h1) (hg rfl ys ds _ hy h2) (by simp [Op.equalIn, run_underlying hu]) k3⟩
          rw [Bool.and_eq_true, k2]; simp
        · rename_i a b0 hd
          obtain ⟨p, b, k1, k2, k3⟩ := eqP_ok TP hx hy (fs := fs) _ (fun g hg => hn g (List.mem_cons_of_mem _ hg)) h
          rw [hd] at hg hdd
          simp only [D.is] at hdd
          subst hdd
          refine ⟨_, _, k1, ?_, eqf_one (r := a == b0) (hn f (List.mem_cons_self ..)) (hg rfl xs cs _ hx h1) (hg rfl ys ds _ hy h2) (by simp [Op.equalIn, run_underlying hu]) k3⟩
          rw [Bool.and_eq_true, k2, beq_toListBytes, bytes_beq, decide_eq_true_iff]
        · exact h.elim
      · exact h.elim
    · exact h.elim
def sBin (op : BinOp) (p : Prop) (K : AV → Prop) : Prop :=
  match op with
  | .eql => vcmp p K
  | .neq => vcmp (¬ p) K
  | _ => False
theorem sBin_ok {op : BinOp} {p : Prop} {K : AV → Prop} (h : sBin op p K) {b : Bool} (hb : b = true ↔ p) : ∃ r, (op = .eql ∧ r = b ∨ op = .neq ∧ r = !b) ∧ K (vB r) := by
  unfold sBin at h
  split at h
  · refine ⟨b, .inl ⟨rfl, rfl⟩, ?_⟩
    cases b
    · exact h.2 (fun hp => by have := hb.2 hp; cases this)
    · exact h.1 (hb.1 rfl)
  · refine ⟨!b, .inr ⟨rfl, rfl⟩, ?_⟩
    cases b
    · exact h.1 (fun hp => by have := hb.2 hp; cases this)
    · exact h.2 (fun hn => hn (hb.1 rfl))
  · exact h.elim
theorem Runs.eqS {P : Program} {T : TT} (TP : TOk P T) {G : Gh} {w : World} {st : Sto} (hI : Inv G w st) {t : TypeId} {i : TI} (hi : T t = some i) {fs : List (Nat × TypeId)} (hd : i.d = .st fs) {op : BinOp} {x y : Operand} {cs ds : List AC} {u v : Value}
    (hx : RV G w (.g cs) u) (hy : RV G w (.g ds) v) {K : AV → Sto → Prop} (h : eqP T cs ds fs fun p => sBin op p fun r => K r st) : Runs P G w (do eqGuard op t x y u v; binOp op t u v) K := by
  cases hx with
  | g _ xs hxl hx =>
    cases hy with
    | g _ ys hyl hy =>
      obtain ⟨d, hu, hdd⟩ := TP.u t i hi
      rw [hd] at hdd
      obtain ⟨a, rfl, ha⟩ := hdd
      obtain ⟨hq1, hq2, hq3⟩ := TP.q t i fs hi hd
      rw [← ha] at h
      obtain ⟨p, b, k1, k2, k3⟩ := eqP_ok (d := 9998) TP ⟨hxl, hx⟩ ⟨hyl, hy⟩ _ (hq3 a hu) h
      have hf : P.fieldsOf t = a := by simp [Program.fieldsOf, hu]
      have he : (Op.equal t (.agg xs) (.agg ys)).run P w = .ok b w := by
        show (Op.equalIn (9999 + 1) t (.agg xs) (.agg ys)).run P w = _
        rw [run_equalIn_struct (P := P) w 9999 t xs ys (by rw [hf]; exact hu) hq1, hf]
        exact k3
      obtain ⟨r, hr, hK⟩ := sBin_ok k1 k2
      rcases hr with ⟨rfl, rfl⟩ | ⟨rfl, rfl⟩
      · exact .pure hI (by simp [eqGuard, hq2, binOp, he]) hK (RV.one _ rfl)
      · exact .pure hI (by simp [eqGuard, hq2, binOp, he]) hK (RV.one _ rfl)
theorem eqP_mono {T : TT} {xs ys : List AC} : ∀ {fs : List (Nat × TypeId)} {F F' : Prop → Prop}, (∀ p, F p → F' p) → eqP T xs ys fs F → eqP T xs ys fs F'
  | [], F, F', hk, h => hk _ h
  | (o, t) :: r, F, F', hk, h => by
    simp only [eqP] at h ⊢
    split at h
    · unfold fldEq at h ⊢
      split at h
      · split at h
        · exact eqP_mono (fun q => hk _) h
        · split at h; rotate_left; exact h.elim
          rename_i hkk
          rw [if_pos hkk]
          exact eqP_mono (fun q => hk _) h
        · exact eqP_mono (fun q => hk _) h
        · exact h.elim
      · exact h.elim
    · exact h.elim
theorem eqP_det {T : TT} {xs ys : List AC} : ∀ {fs : List (Nat × TypeId)} {F : Prop → Prop}, eqP T xs ys fs F → ∃ p, F p ∧ ∀ F' : Prop → Prop, F' p → eqP T xs ys fs F'
  | [], F, h => ⟨_, h, fun F' h => h⟩
  | (o, t) :: r, F, h => by
    simp only [eqP] at h ⊢
    split at h
    · unfold fldEq at h ⊢
      split at h
      · split at h
        · obtain ⟨p, h1, h2⟩ := eqP_det h; exact ⟨_, h1, fun F' h' => h2 _ h'⟩
        · split at h; rotate_left; exact h.elim
          rename_i hkk
          obtain ⟨p, h1, h2⟩ := eqP_det h; exact ⟨_, h1, fun F' h' => by rw [if_pos hkk]; exact h2 _ h'⟩
        · obtain ⟨p, h1, h2⟩ := eqP_det h; exact ⟨_, h1, fun F' h' => h2 _ h'⟩
        · exact h.elim
      · exact h.elim
    · exact h.elim
end Go.Proofs.YtnafgpgbedcdnaaDoor.D.Pm

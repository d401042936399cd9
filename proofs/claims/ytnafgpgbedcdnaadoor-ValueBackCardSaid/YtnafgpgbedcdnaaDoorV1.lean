/- Words and contracts: a plain machine over the model, and what the functions that a law reaches come to, each for every input that its theorem names. -/
import Derived.Test.YtnafgpgbedcdnaaDoorV0
import Derived.Laws.IdiomStrings
import Derived.LoopN
import Derived.Scope
namespace Go.Proofs.YtnafgpgbedcdnaaDoor.D.Pm
set_option linter.unusedVariables false
set_option linter.unusedSimpArgs false
open Go
/-! ### how a cell may be seen, once the objects of D no longer change -/
inductive Fz (D : Nat → Bool) (st : Sto) : AC → AC → Prop
  | refl (c : AC) : Fz D st c c
  | nil (sz : Nat) : Fz D st (.v (.slice none 0 0)) (.sl sz [])
  | ptr (id off : Nat) (cs : List AC) (hd : D id = true) (hs : st id = some (.bx cs)) : Fz D st (.ptr id off) (.ep (cs.drop off))
  | arr (id off len sz : Nat) (rows ys : List (List AC)) (hd : D id = true) (hs : st id = some (.ar sz rows)) (hl : off + len ≤ rows.length) (hy : ys.length = len) (hr : ∀ (i : Nat) r, ys[i]? = some r → r.length = sz)
      (h : ∀ (i : Nat) r r' (j : Nat) c c', rows[off + i]? = some r → ys[i]? = some r' → r[j]? = some c → r'[j]? = some c' → Fz D st c c') : Fz D st (.arr id off len) (.sl sz ys)
  | sl (sz : Nat) (xs ys : List (List AC)) (hl : ys.length = xs.length) (hr : ∀ (i : Nat) r, ys[i]? = some r → r.length = sz)
      (h : ∀ (i : Nat) r r' (j : Nat) c c', xs[i]? = some r → ys[i]? = some r' → r[j]? = some c → r'[j]? = some c' → Fz D st c c') : Fz D st (.sl sz xs) (.sl sz ys)
/-- the ghosts, once the objects of D no longer change -/
def Gh.frz (G : Gh) (D : Nat → Bool) (st : Sto) (w : World) : Gh :=
  ⟨G.U, G.R, fun i => if D i = true then none else G.b i, fun k => G.X k ∨ ∃ i o sz, D i = true ∧ st i = some o ∧ G.b i = some (k, sz), G.B⟩
theorem frz_b {G : Gh} {D : Nat → Bool} {st : Sto} {w : World} (i : Nat) : (G.frz D st w).b i = none ∨ (D i = false ∧ (G.frz D st w).b i = G.b i) := by
  by_cases h : D i = true
  · left; show (if D i = true then none else G.b i) = none; rw [if_pos h]
  · right; exact ⟨by simpa using h, by show (if D i = true then none else G.b i) = _; rw [if_neg h]⟩
theorem Ext.frz (G : Gh) (D : Nat → Bool) (st : Sto) (w : World) : Ext G w (G.frz D st w) w :=
  ⟨⟨Nat.le_refl _, fun _ h => h, fun _ h => .inl h, fun _ _ => rfl, fun i _ => (frz_b i).imp id (fun h => h.2), fun _ _ _ _ _ cs e h => ⟨cs, h, rfl⟩⟩, fun _ h => h, fun _ _ h => h, ⟨rfl, rfl, rfl⟩, rfl⟩
theorem Inv.frz {G : Gh} {w : World} {st st' : Sto} (hI : Inv G w st) (D : Nat → Bool) (h : ∀ id o, st' id = some o → st id = some o ∧ D id = false) : Inv (G.frz D st w) w st' where
  obj := fun id o ho => by
    obtain ⟨h1, h2⟩ := h id o ho
    obtain ⟨g, sz, cs, e, a, b, c, d, f, k⟩ := hI.obj id o h1
    refine ⟨g, sz, cs, e, a, ?_, c, d, f, fun j x v p q => (k j x v p q).ext (Ext.frz G D st w)⟩
    show (if D id = true then none else G.b id) = _
    rw [if_neg (by simp [h2])]; exact b
  lt := fun id g sz hb => by
    rcases frz_b (G := G) (D := D) (st := st) (w := w) id with h1 | ⟨h0, h1⟩
    · rw [h1] at hb; cases hb
    · rw [h1] at hb
      obtain ⟨a, b, c⟩ := hI.lt id g sz hb
      refine ⟨a, b, fun hX => ?_⟩
      rcases hX with hX | ⟨i, o, z, hd, _, hi⟩
      · exact c hX
      · have e := hI.inj _ _ _ _ _ hi hb
        rw [e, h0] at hd
        cases hd
  inj := fun id id' g sz sz' h1 h2 => by
    rcases frz_b (G := G) (D := D) (st := st) (w := w) id with a | ⟨_, a⟩
    · rw [a] at h1; cases h1
    · rcases frz_b (G := G) (D := D) (st := st) (w := w) id' with b | ⟨_, b⟩
      · rw [b] at h2; cases h2
      · rw [a] at h1; rw [b] at h2; exact hI.inj _ _ _ _ _ h1 h2
  X := fun k hk => by
    rcases hk with hk | ⟨i, o, z, _, _, hi⟩
    · exact hI.X k hk
    · exact (hI.lt _ _ _ hi).2.1
  new := hI.new
theorem Fz.ok {G : Gh} {w : World} {st : Sto} (hI : Inv G w st) {D : Nat → Bool} {c c' : AC} (h : Fz D st c c') : ∀ {v : Value}, RC G w c v → RC (G.frz D st w) w c' v := by
  induction h with
  | refl c => exact fun h => h.ext (Ext.frz G D st w)
  | nil sz => intro v h; cases h; exact .sl sz [] none 0 0 (fun _ _ => undef) rfl (Nat.le_refl _) (Nat.zero_le _) (fun i cs h => by simp at h) 0 0 (fun h => absurd h (Nat.lt_irrefl _)) (fun i cs j c h => by simp at h) (fun i cs j c h => by simp at h)
  | ptr id off cs hd hs =>
    intro v hv
    cases hv with
    | ptr _ _ A hU ha =>
      obtain ⟨g, z, us, e, hU', hb, hw, _, hcl, hrel⟩ := hI.obj id _ hs
      have hA := ha g _ hb
      subst hA
      have hlt : ∀ (j : Nat) c, (cs.drop off)[j]? = some c → ∃ u, us[off + j]? = some u ∧ RC G w c u := fun j c hj => by
        rw [List.getElem?_drop] at hj
        have h1 : off + j < us.size := Nat.lt_of_lt_of_le (List.getElem?_eq_some_iff.1 hj).1 hcl
        exact ⟨_, Array.getElem?_eq_getElem h1, hrel _ _ _ hj (Array.getElem?_eq_getElem h1)⟩
      refine .ep _ g off (fun j => (us[off + j]?).getD undef) (.inr ⟨id, _, z, hd, hs, hb⟩) (fun j c hj => ?_) (fun j c hj => ?_)
      · obtain ⟨u, hu, _⟩ := hlt j c hj
        rw [cell_of hw, hu]; rfl
      · obtain ⟨u, hu, hr⟩ := hlt j c hj
        rw [hu]; exact hr.ext (Ext.frz G D st w)
  | arr id off len sz rows ys hd hs hl hy hr h ih =>
    intro v hv
    cases hv with
    | arr _ _ _ A cap hU hc hm ha =>
      obtain ⟨g, z, cs, e, hU', hb, hw, ⟨hz, hrows⟩, hcl, hrel⟩ := hI.obj id _ hs
      subst hz
      obtain ⟨cs2, e2, hw2, hA, hcap⟩ := ha g _ hb
      have hlt : ∀ (i : Nat) r (j : Nat) c, ys[i]? = some r → r[j]? = some c → ∃ r0 c0, rows[off + i]? = some r0 ∧ r0[j]? = some c0 ∧ ∃ x, cs[(off + i) * sz + j]? = some x ∧ RC G w c0 x := fun i r j c h1 h2 => by
        have hi : i < len := by rw [← hy]; exact (List.getElem?_eq_some_iff.1 h1).1
        have hj : j < sz := by rw [← hr i r h1]; exact (List.getElem?_eq_some_iff.1 h2).1
        have h3 : rows[off + i]? = some rows[off + i] := List.getElem?_eq_getElem (by omega)
        have h4 : rows[off + i].length = sz := hrows _ (List.getElem_mem ..)
        have h5 : rows[off + i][j]? = some rows[off + i][j] := List.getElem?_eq_getElem (by omega)
        have h6 := flat_at hrows h3 h5
        have h7 : (off + i) * sz + j < cs.size := Nat.lt_of_lt_of_le (List.getElem?_eq_some_iff.1 h6).1 hcl
        exact ⟨_, _, h3, h5, _, Array.getElem?_eq_getElem h7, hrel _ _ _ h6 (Array.getElem?_eq_getElem h7)⟩
      refine .sl sz ys A len cap (fun i j => (cs[(off + i) * sz + j]?).getD undef) hy.symm hc hm hr g (off * sz) (fun hp => ?_) (fun i r j c h1 h2 => ?_) (fun i r j c h1 h2 => ?_)
      · exact ⟨by rcases hA with h | h; omega; exact h, .inr ⟨id, _, sz, hd, hs, hb⟩⟩
      · obtain ⟨r0, c0, _, _, x, hx, _⟩ := hlt i r j c h1 h2
        rw [cell_of hw, show off * sz + (i * sz + j) = (off + i) * sz + j by rw [Nat.add_mul]; omega, hx]
        rfl
      · obtain ⟨r0, c0, h3, h4, x, hx, hxr⟩ := hlt i r j c h1 h2
        rw [hx]
        exact ih i r0 r j c0 c h3 h1 h4 h2 hxr
  | sl sz xs ys hl hr h ih =>
    intro v hv
    cases hv with
    | sl _ _ A len cap vs hll hc hm hs g o ha hcell hh =>
      have hlt : ∀ (i : Nat) r (j : Nat) c, ys[i]? = some r → r[j]? = some c → ∃ r0 c0, xs[i]? = some r0 ∧ r0[j]? = some c0 := fun i r j c h1 h2 => by
        have hi : i < xs.length := by rw [← hl]; exact (List.getElem?_eq_some_iff.1 h1).1
        have hj : j < sz := by rw [← hr i r h1]; exact (List.getElem?_eq_some_iff.1 h2).1
        have h3 : xs[i]? = some xs[i] := List.getElem?_eq_getElem hi
        have h4 := hs i _ h3
        exact ⟨_, _, h3, List.getElem?_eq_getElem (by omega)⟩
      refine .sl sz ys A len cap vs (by omega) hc hm hr g o (fun hp => ⟨(ha hp).1, .inl (ha hp).2⟩) (fun i r j c h1 h2 => ?_) (fun i r j c h1 h2 => ?_)
      · obtain ⟨r0, c0, h3, h4⟩ := hlt i r j c h1 h2
        exact hcell i r0 j c0 h3 h4
      · obtain ⟨r0, c0, h3, h4⟩ := hlt i r j c h1 h2
        exact ih i r0 r j c0 c h3 h1 h4 h2 (hh i r0 j c0 h3 h4)
/-- the same of values -/
inductive FV (D : Nat → Bool) (st : Sto) : AV → AV → Prop
  | refl (r : AV) : FV D st r r
  | c (x y : AC) (h : Fz D st x y) : FV D st (.c x) (.c y)
  | g (xs ys : List AC) (hl : ys.length = xs.length) (h : ∀ (j : Nat) c c', xs[j]? = some c → ys[j]? = some c' → Fz D st c c') : FV D st (.g xs) (.g ys)
  | t (xs ys : List AV) (hl : ys.length = xs.length) (h : ∀ (j : Nat) c c', xs[j]? = some c → ys[j]? = some c' → FV D st c c') : FV D st (.t xs) (.t ys)
theorem FV.ok {G : Gh} {w : World} {st : Sto} (hI : Inv G w st) {D : Nat → Bool} {c c' : AV} (h : FV D st c c') : ∀ {v : Value}, RV G w c v → RV (G.frz D st w) w c' v := by
  induction h with
  | refl c => exact fun h => h.ext (Ext.frz G D st w)
  | c x y h => intro v hv; cases hv with | c _ _ hv => exact .c _ _ (h.ok hI hv)
  | g xs ys hl h =>
    intro v hv
    cases hv with
    | g _ vs hvl hh =>
      refine .g ys vs (by omega) (fun j c v h1 h2 => ?_)
      have hlt : j < xs.length := by rw [← hl]; exact (List.getElem?_eq_some_iff.1 h1).1
      exact (h j _ c (List.getElem?_eq_getElem hlt) h1).ok hI (hh j _ v (List.getElem?_eq_getElem hlt) h2)
  | t xs ys hl h ih =>
    intro v hv
    cases hv with
    | t _ vs hvl hh =>
      refine .t ys vs (by omega) (fun j c v h1 h2 => ?_)
      have hlt : j < xs.length := by rw [← hl]; exact (List.getElem?_eq_some_iff.1 h1).1
      exact ih j _ c (List.getElem?_eq_getElem hlt) h1 (hh j _ v (List.getElem?_eq_getElem hlt) h2)
def only (id : Nat) : Nat → Bool := fun i => decide (i = id)
theorem only_old {st : Sto} {id : Nat} (h : st id = none) (o : Ob) : ∀ i o', st i = some o' → upd st id o i = some o' ∧ only id i = false := fun i o' hi => by
  have : i ≠ id := fun e => by subst e; rw [h] at hi; cases hi
  exact ⟨by simp [upd, this, hi], by simp [only, this]⟩
theorem Fz.arr0 {D : Nat → Bool} {st : Sto} {id sz : Nat} {rows : List (List AC)} (hd : D id = true) (hs : st id = some (.ar sz rows)) (hr : ∀ r ∈ rows, r.length = sz) : Fz D st (.arr id 0 rows.length) (.sl sz rows) :=
  Fz.arr id 0 rows.length sz rows rows hd hs (by omega) rfl (fun i r hi => hr r (List.mem_of_getElem? hi)) (fun i r r' j c c' q1 q2 q3 q4 => by
    rw [Nat.zero_add] at q1
    rw [q1] at q2
    cases q2
    rw [q3] at q4
    cases q4
    exact .refl _)
end Go.Proofs.YtnafgpgbedcdnaaDoor.D.Pm
namespace Go.Proofs.YtnafgpgbedcdnaaDoor.D.Pm
set_option linter.unusedVariables false
set_option linter.unusedSimpArgs false
open Go
/-! ### texts and bytes -/
/-- a block more, that belongs to no one -/
def Gh.lay1 (G : Gh) (a : Nat) : Gh := ⟨G.U, G.R, G.b, fun k => G.X k ∨ k = a, G.B⟩
theorem Inv.lay1 {G : Gh} {w w' : World} {st : Sto} (hI : Inv G w st) (hs : w'.heap.size = w.heap.size + 1) (hk : ∀ k, k < w.heap.size → w'.heap[k]? = w.heap[k]?) (ho : w'.os = w.os ∧ w'.tape = w.tape ∧ w'.output = w.output) :
    Ext G w (G.lay1 w.heap.size) w' ∧ Inv (G.lay1 w.heap.size) w' st := by
  have hx : Ext G w (G.lay1 w.heap.size) w' := by
    refine ⟨⟨by omega, fun _ h => h, fun _ h => .inl h, fun k hX => hk k (hI.X k hX), fun _ _ => .inr rfl, fun i g z hi hb cs e hc => ⟨cs, ?_, rfl⟩⟩, fun _ h => h, fun _ _ h => h, ho, rfl⟩
    rw [hk g (Array.getElem?_eq_some_iff.1 hc).1]; exact hc
  refine ⟨hx, fun i o h => ?_, fun i g z hb => ?_, hI.inj, fun k hX => ?_, hI.new⟩
  · obtain ⟨g, z, cs, e, h1, h2, h3, h4, h5, h6⟩ := hI.obj i o h
    exact ⟨g, z, cs, e, h1, h2, by rw [hk g (Array.getElem?_eq_some_iff.1 h3).1]; exact h3, h4, h5, fun j c v a b => (h6 j c v a b).ext hx⟩
  · obtain ⟨h1, h2, h3⟩ := hI.lt i g z hb
    exact ⟨h1, by omega, fun h => by rcases h with h | h; exact h3 h; omega⟩
  · rcases hX with h | h
    · have := hI.X k h; omega
    · omega
def isU8 (d : D) : Bool := match d with | .i .u8 => true | _ => false
theorem isU8_ok {d : D} (h : isU8 d = true) : d = .i .u8 := by
  unfold isU8 at h
  split at h
  · rfl
  · cases h
theorem byc_at {s : ByteArray} {i : Nat} {r : List AC} (h : (byc s)[i]? = some r) : ∃ b, s.data[i]? = some b ∧ r = [AC.v (.int .u8 b.toNat)] := by
  unfold byc at h
  rw [List.getElem?_map] at h
  obtain ⟨b, h1, h2⟩ := Option.map_eq_some_iff.1 h
  exact ⟨b, by simpa using h1, h2.symm⟩
/-- a text as bytes -/
theorem Runs.s2b {P : Program} {T : TT} (TP : TOk P T) {G : Gh} {w : World} {st : Sto} (hI : Inv G w st) {src dst e : TypeId} {i j q : TI} (hs : T src = some q) (hsd : q.d = .s) (hi : T dst = some i) (hd : i.d = .sl e) (hj : T e = some j) (h8 : isU8 j.d = true) {s : ByteArray} (hl : s.size ≤ maxLen)
    {K : AV → Sto → Prop} (h : K (.c (.sl 1 (byc s))) st) : Runs P G w (convert src dst (.string s)) K := by
  have hr := run_bytes_of_string (P := P) w src dst e s (und_s TP hs hsd) (und_sl TP hi hd) (und_i TP hj (isU8_ok h8))
  generalize hC : bytesRow s (grownCap w s.size 0 e) = C at hr
  obtain ⟨hx, hI'⟩ := hI.lay1 (w' := w.drew.alloc (.cells C e (C.size, C.size + 1))) (by show (w.heap.push _).size = _; simp) (fun k hk => push_old hk) ⟨rfl, rfl, rfl⟩
  refine ⟨_, _, _, _, _, hr, h, hx, hI', .c _ _ ?_⟩
  have hlen : (byc s).length = s.size := by unfold byc; simp
  have hcell : ∀ k b, s.data[k]? = some b → (w.drew.alloc (.cells C e (C.size, C.size + 1))).cell? (adr w.heap.size k) = some (.int .u8 b.toNat) := fun k b hb => by
    have h1 : (w.drew.alloc (.cells C e (C.size, C.size + 1))).heap[w.heap.size]? = some (.cells C e (C.size, C.size + 1)) := by
      show (w.heap.push _)[w.heap.size]? = _
      simp
    have hlt := (Array.getElem?_eq_some_iff.1 hb).1
    simp only [World.cell?, adr, h1]
    rw [← hC]
    unfold bytesRow
    have hlt' : k < s.size := hlt
    have e1 := (Array.getElem?_eq_some_iff.1 hb).2
    simp [Array.getElem?_append, hlt', hb]
    exact congrArg (fun x : UInt8 => ((x.toNat : Nat) : Int)) e1
  refine .sl 1 _ _ _ _ (fun k _ => .int .u8 (s.data.getD k 0).toNat) hlen.symm (grownCap_ge w _ 0 e) (grownCap_le_maxLen w _ 0 e hl) (fun k r hk => by obtain ⟨b, _, rfl⟩ := byc_at hk; rfl) w.heap.size 0 (fun _ => ⟨rfl, .inr rfl⟩) (fun k r m c hk hm => ?_) (fun k r m c hk hm => ?_)
  · obtain ⟨b, hb, rfl⟩ := byc_at hk
    match m, hm with
    | 0, hm =>
      cases hm
      have := hcell k b hb
      rw [show 0 + (k * 1 + 0) = k by omega, this]
      simp [Array.getD_eq_getD_getElem?, hb]
    | m + 1, hm => simp at hm
  · obtain ⟨b, hb, rfl⟩ := byc_at hk
    match m, hm with
    | 0, hm =>
      cases hm
      simp only [Array.getD_eq_getD_getElem?, hb, Option.getD_some]
      exact .v _ rfl
    | m + 1, hm => simp at hm
/-- bytes as a text -/
theorem Runs.b2s {P : Program} {T : TT} (TP : TOk P T) {G : Gh} {w : World} {st : Sto} (hI : Inv G w st) {src dst e : TypeId} {i j q : TI} (hi : T src = some i) (hd : i.d = .sl e) (hj : T e = some j) (h8 : isU8 j.d = true) (hq : T dst = some q) (hqd : q.d = .s) {x : AC} {v : Value} (hx : RC G w x v)
    {s : ByteArray} (hs : srcp st 1 x = some (byc s)) (hk : ∀ s, x ≠ .v (.string s)) {K : AV → Sto → Prop} (h : K (.c (.v (.string s))) st) : Runs P G w (convert src dst v) K := by
  obtain ⟨_, news, hsrc, hnl, hrel⟩ := srcp_ok TP hI hi hx hs (.inl ⟨⟨e, hd⟩, hk⟩)
  have hlen : (byc s).length = s.size := by unfold byc; simp
  have hn : news = (s.data.toList.map fun b => (b.toNat : Int)).map (Value.int .u8) := by
    refine List.ext_getElem? fun k => ?_
    by_cases hk : k < s.size
    · have h1 : (byc s).flatten[k]? = some (AC.v (.int .u8 (s.data[k]'hk).toNat)) := by
        rw [byc_flat, List.getElem?_map]
        simp [hk]
      have h2 : k < news.length := by rw [hnl, hlen]; omega
      have h3 := hrel k _ _ h1 (List.getElem?_eq_getElem h2)
      generalize hnk : news[k] = u at h3
      rw [List.getElem?_eq_getElem h2, hnk]
      cases h3
      simp [hk]
    · rw [List.getElem?_eq_none (by rw [hnl, hlen]; omega), List.getElem?_eq_none (by simp; omega)]
  have h1 := hsrc.len w
  have hcells := hsrc.cells
  refine .pure hI ?_ h (RV.one _ rfl)
  have hse := und_sl TP hi hd
  have he8 := und_i TP hj (isU8_ok h8)
  have hds := und_s TP hq hqd
  have hfold : (s.data.toList.map fun b => (b.toNat : Int)).foldl (fun r n => r.push (UInt8.ofNat n.toNat)) ByteArray.empty = s := by
    rw [foldl_push_byteCells]
    have he0 : ByteArray.empty.data = #[] := rfl
    rw [he0]
    simp
  cases v <;> first | (simp [Builtin.lenOf] at h1; done) | skip
  case string q =>
    cases hx with
    | v _ _ => exact absurd rfl (hk _)
    | ab F _ _ => cases hs
  case slice A len cap =>
    have hl2 : len = s.size := by simpa [Builtin.lenOf, hlen] using h1
    cases A with
    | none =>
      have e1 : news = [] := by
        simp only [Builtin.firstCells] at hcells
        have : (#[] : Array Value) = news.toArray := by simpa using hcells
        simpa using (congrArg Array.toList this).symm
      have h0 : s.size = 0 := by rw [e1, hlen] at hnl; simpa using hnl.symm
      have hse0 : s = ByteArray.empty := by
        obtain ⟨a⟩ := s
        have : a = #[] := Array.eq_empty_of_size_eq_zero h0
        rw [this]; rfl
      rw [hse0]
      exact run_convert_bytes_nil w src e hse he8 _ _ dst hds
    | some a =>
      simp only [Builtin.firstCells, hlen, Nat.mul_one] at hcells
      rw [hn] at hcells
      rw [run_convert_bytes_string w src dst e _ _ _ hse he8 hds, hl2, run_bytesToString w a _ cap _ hcells, hfold]
theorem RC.look {G : Gh} {w w' : World} (hc : ∀ a, w'.cell? a = w.cell? a) (hb : ∀ id g sz, G.b id = some (g, sz) → w'.heap[g]? = w.heap[g]?) {c : AC} {v : Value} (h : RC G w c v) : RC G w' c v :=
  h.stp ⟨fun _ h => h, fun _ h => h, fun a _ _ h => (hc a).trans h, fun _ _ => .inr rfl, fun id g sz _ hb' cs e hc => ⟨cs, (hb id g sz hb').trans hc, rfl⟩⟩
/-- a row gets a conversion's mark -/
theorem mark_facts {w : World} {g : Nat} {cs : Array Value} {e : TypeId} (hw : w.heap[g]? = some (.cells cs e (0, 0))) : ∃ w', (∀ P : Program, (markStringish (adr g 0)).run P w = .ok () w') ∧ w'.heap.size = w.heap.size ∧ (∀ k, k ≠ g → w'.heap[k]? = w.heap[k]?) ∧ (∀ a, w'.cell? a = w.cell? a) ∧ (w'.os = w.os ∧ w'.tape = w.tape ∧ w'.output = w.output) := by
  refine ⟨w.freeze ⟨g, cs.size, none⟩ 1, fun P => ?_, ?_, fun k hk => ?_, fun a => ?_, ?_⟩
  · have hsh : w.shape? g = some (e, cs.size) := by simp [World.shape?, hw]
    simp [markStringish, adr, hsh]
  · simp [World.freeze]
  · unfold World.freeze
    rw [if_neg (by decide)]
    simp [Array.getElem?_modify, Ne.symm hk]
  · unfold World.freeze World.cell?
    rw [if_neg (by decide)]
    by_cases h : g = a.block
    · simp only [Array.getElem?_modify]
      rw [if_pos h, ← h, hw]
      rfl
    · simp only [Array.getElem?_modify]
      rw [if_neg h]
  · unfold World.freeze
    rw [if_neg (by decide)]
    exact ⟨rfl, rfl, rfl⟩
/-- a list that no one else has, as bytes of a constant text are handed out -/
theorem Runs.b2b {P : Program} {T : TT} (TP : TOk P T) {G : Gh} {w : World} {st : Sto} (hI : Inv G w st) {src e : TypeId} {i j : TI} (hi : T src = some i) (hd : i.d = .sl e) (hj : T e = some j) (h8 : isU8 j.d = true) {id len : Nat} {v : Value} (hx : RC G w (.arr id 0 len) v)
    {rows : List (List AC)} (ho : st id = some (.ar 1 rows)) (hlen : len = rows.length) (h0 : 0 < len) {K : AV → Sto → Prop} (h : K (.c (.sl 1 rows)) (del st id)) : Runs P G w (convert src src v) K := by
  have hse := und_sl TP hi hd
  have he8 := und_i TP hj (isU8_ok h8)
  obtain ⟨g, sz, hU', hb, cs, e', hw, ⟨hsz', hr0⟩, hcl, hrel0⟩ := hI.get ho
  cases hsz'
  have hfz := (Fz.arr0 (D := only id) (st := st) (by unfold only; simp) ho hr0).ok hI (hlen ▸ hx)
  cases hx with
  | arr _ _ _ A cap hU hc hm ha =>
    obtain ⟨cs2, e2, hw2, hA, hcap⟩ := ha g _ hb
    have hA' : A = some (adr g 0) := by rcases hA with h | h; omega; simpa using h
    subst hA'
    obtain ⟨w', hrun, hs, hk, hcell, hout⟩ := mark_facts hw
    have hnb : ∀ i' g' sz', (G.frz (only id) st w).b i' = some (g', sz') → g' ≠ g := fun i' g' sz' hb' hg => by
      rcases frz_b (G := G) (D := only id) (st := st) (w := w) i' with h1 | ⟨h1, h2⟩
      · rw [h1] at hb'; cases hb'
      · rw [h2] at hb'
        subst hg
        have := hI.inj _ _ _ _ _ hb' hb
        subst this
        simp [only] at h1
    have hx1 := Ext.frz G (only id) st w
    have hI1 := hI.frz (only id) (st' := del st id) (fun k o hk => by
      unfold del at hk
      split at hk
      · cases hk
      · rename_i hne; exact ⟨hk, by unfold only; exact decide_eq_false hne⟩)
    have hgX : ¬ G.X g := (hI.lt id g 1 hb).2.2
    have hx : Ext G w (G.frz (only id) st w) w' := by
      refine ⟨⟨by omega, hx1.U, hx1.X, fun k hX => hk k (fun e => hgX (e ▸ hX)), hx1.live, fun i' g' sz' hi hb' cs0 e0 hc0 => ⟨cs0, ?_, rfl⟩⟩, hx1.R, hx1.res, hout, rfl⟩
      rw [hk g' (hnb _ _ _ hb')]; exact hc0
    have hI' : Inv (G.frz (only id) st w) w' (del st id) := by
      refine ⟨fun i' o hh => ?_, fun i' g' sz' hb' => by rw [hs]; exact hI1.lt i' g' sz' hb', hI1.inj, fun k hX => by rw [hs]; exact hI1.X k hX, hI1.new⟩
      obtain ⟨g', sz', cs', e1, q1, q2, q3, q4, q5, q6⟩ := hI1.obj i' o hh
      exact ⟨g', sz', cs', e1, q1, q2, by rw [hk g' (hnb _ _ _ q2)]; exact q3, q4, q5, fun j c v a b => (q6 j c v a b).look hcell (fun i3 g3 s3 h3 => hk g3 (hnb _ _ _ h3))⟩
    refine ⟨_, w', _, _, _, ?_, h, hx, hI', .c _ _ (hfz.look hcell (fun i3 g3 s3 h3 => hk g3 (hnb _ _ _ h3)))⟩
    have hr := hrun P
    simp [convert, run_underlying hse, run_underlying he8, hr]
end Go.Proofs.YtnafgpgbedcdnaaDoor.D.Pm
namespace Go.Proofs.YtnafgpgbedcdnaaDoor.D.Pm
set_option linter.unusedVariables false
set_option linter.unusedSimpArgs false
open Go
/-- a guard: a truth, or nothing, if it was not gone through itself -/
def onG (r : AV) (A : Prop) (F : Bool → Prop) : Prop :=
  match r with
  | .t _ => A
  | .c (.v (.bool b)) => onB b F
  | _ => False
def notIs (r : AV) (want : Bool) : Prop := (∃ b, r = .c (.v (.bool b)) ∧ b ≠ want) ∨ ∃ l, r = .t l
theorem onG_ok {r : AV} {A : Prop} {F : Bool → Prop} (h : onG r A F) : (∃ l, r = .t l) ∧ A ∨ ∃ b, r = .c (.v (.bool b)) ∧ F b := by
  unfold onG at h
  split at h
  · exact .inl ⟨⟨_, rfl⟩, h⟩
  · exact .inr ⟨_, rfl, onB_iff.1 h⟩
  · exact h.elim
/-- an operand that is a whole number -/
def onI (r : AV) (F : IntKind → Int → Prop) : Prop :=
  match r with
  | .c (.v (.int k n)) => F k n
  | _ => False
def ev2 (env : Env) (x : Operand) (F : AC → Prop) : Prop := onO (ev env x) fun r => onC r F
theorem ev2_ok {env : Env} {x : Operand} {F : AC → Prop} (h : ev2 env x F) : ∃ c, ev env x = some (.c c) ∧ F c := by
  obtain ⟨r, h1, h2⟩ := onO_iff.1 h
  obtain ⟨c, rfl, h3⟩ := onC_iff.1 h2
  exact ⟨c, h1, h3⟩
def slE (d : D) (F : TypeId → Prop) : Prop := match d with | .sl e => F e | _ => False
theorem slE_ok {d : D} {F : TypeId → Prop} (h : slE d F) : ∃ e, d = .sl e ∧ F e := by
  cases d <;> first | exact h.elim | exact ⟨_, rfl, h⟩
def stE (d : D) (F : List (Nat × TypeId) → Prop) : Prop := match d with | .st e => F e | _ => False
def ayE (d : D) (F : Nat → TypeId → Prop) : Prop := match d with | .ay n e => F n e | _ => False
theorem ayE_ok {d : D} {F : Nat → TypeId → Prop} (h : ayE d F) : ∃ n e, d = .ay n e ∧ F n e := by
  cases d <;> first | exact h.elim | exact ⟨_, _, rfl, h⟩
theorem stE_ok {d : D} {F : List (Nat × TypeId) → Prop} (h : stE d F) : ∃ e, d = .st e ∧ F e := by
  cases d <;> first | exact h.elim | exact ⟨_, rfl, h⟩
/-- an element's address in an array -/
def ixa (st : Sto) (sz m : Nat) (x : AC) (i : Int) (F : AC → Prop) : Prop :=
  match x with
  | .pe id r 0 => 0 ≤ i ∧ i < m ∧ (∃ rows, st id = some (.ar sz rows)) ∧ F (.pe id (r + i.toNat) 0)
  | _ => False
def isS (y : AC) : Bool := match y with | .v (.string _) => true | _ => false
def isSD (d : D) : Bool := match d with | .s => true | _ => false
def isSl (d : D) : Bool := match d with | .sl _ => true | _ => false
def vcvt (T : TT) (src dst : TypeId) (x : AC) (st : Sto) (K : AC → Sto → Prop) : Prop :=
  match x with
  | .v (.int _ n) => (T src).isSome = true ∧ onO (T dst) fun i => match i.d with
    | .i k => K (.v (.int k (k.wrap n))) st
    | _ => False
  | .v (.string s) => onO (T src) fun q => if isSD q.d = true then onO (T dst) fun i => match i.d with
    | .s => K (.v (.string s)) st
    | .sl e => onO (T e) fun j => if isU8 j.d = true then s.size ≤ maxLen ∧ K (.sl 1 (byc s)) st else False
    | _ => False
    else False
  | .v (.slice none 0 0) => onO (T src) fun i => slE i.d fun e => onO (T e) fun j => onO (T dst) fun q => if (isU8 j.d && isSD q.d) = true then K (.v (.string ⟨#[]⟩)) st else False
  | .sl z xs => onO (T src) fun i => slE i.d fun e => onO (T e) fun j => onO (T dst) fun q => if (isU8 j.d && isSD q.d) = true then z = 1 ∧ ∃ s, xs = byc s ∧ K (.v (.string s)) st else False
  | .arr id off len => onO (T src) fun i => slE i.d fun e => onO (T e) fun j => if isU8 j.d = true then onO (T dst) fun q => match q.d with
    | .s => ∃ rows s, st id = some (.ar 1 rows) ∧ off + len ≤ rows.length ∧ (rows.drop off).take len = byc s ∧ K (.v (.string s)) st
    | .sl _ => src = dst ∧ off = 0 ∧ 0 < len ∧ ∃ rows, st id = some (.ar 1 rows) ∧ len = rows.length ∧ K (.sl 1 rows) (del st id)
    | _ => False
    else False
  | _ => False
/-- what must hold ahead of an append -/
structure App (st : Sto) (z : TI) (x : AC) (ys : List (List AC)) (K : AV → Sto → Prop) : Prop where
  mk ::
  out : match x with
    | .v (.slice none 0 0) => ys.length ≤ maxLen ∧ ys.length * z.bytes ≤ 140737488355328 ∧ (ys = [] → K (.c (.v (.slice none 0 0))) st) ∧ (ys ≠ [] → ∀ id, st id = none → K (.c (.arr id 0 ys.length)) (upd st id (.ar z.size ys)))
    | .arr id off len => off = 0 ∧ ∃ rows, st id = some (.ar z.size rows) ∧ len ≤ rows.length ∧ len + ys.length ≤ maxLen ∧ (len + ys.length) * z.bytes ≤ 140737488355328 ∧
        ∀ id', st id' = none → K (.c (.arr id' 0 (len + ys.length))) (upd (del st id) id' (.ar z.size (rows.take len ++ ys)))
    | _ => False
/-- builtins of the language -/
def vblt (T : TT) (env : Env) (st : Sto) (b : Builtin) (ts : List TypeId) (xs : List Operand) (K : AV → Sto → Prop) : Prop :=
  match b, ts, xs with
  | .len, [t], [x] => ev2 env x fun x => onO (T t) fun i => onO (lenp x) fun n => if (isS x && isSD i.d || !isS x && isSl i.d) = true then K (vI .i64 n) st else False
  | .append, [t, u], [x, y] => ev2 env x fun x => ev2 env y fun y => onO (T t) fun i => onO (T u) fun j => slE i.d fun e => onO (T e) fun z =>
      if (isS y && isSD j.d || !isS y && isSl j.d) = true ∧ 0 < z.size then srcv st z.size y fun ys => App st z x ys K
      else False
  | .copy, [t, u], [x, y] => ev2 env x fun x => ev2 env y fun y => onO (T t) fun i => onO (T u) fun j => slE i.d fun e => onO (T e) fun z =>
      if (isS y && isSD j.d || !isS y && isSl j.d) = true then srcv st z.size y fun ys => cpy st z.size x ys K
      else False
  | .max, _, [x, y] => onO (ev env x) fun x => onO (ev env y) fun y => onI x fun k a => onI y fun k' b => if k = k' then K (vI k (if b > a then b else a)) st else False
  | _, _, _ => False
/-- what must hold ahead of an operation, for K behind it -/
def vop (P : Program) (T : TT) (env : Env) (st : Sto) (o : Op) (K : AV → Sto → Prop) : Prop :=
  match o with
  | .move x => onO (ev env x) fun r => K r st
  | .assign x => onO (ev env x) fun r => K r st
  | .pick c a b => onO (ev env c) fun c => onT c fun c => match c with
    | true => onO (ev env a) fun r => K r st
    | false => onO (ev env b) fun r => K r st
  | .alloc t => onO (T t) fun i => match i.d with
    | .ay n e => onO (T e) fun z => i.z = (List.replicate n z.z).flatten ∧ ∀ id, st id = none → K (.c (.pe id 0 0)) (upd st id (.ar z.size (List.replicate n (z.z.map .v))))
    | _ => ∀ id, st id = none → K (.c (.ptr id 0)) (upd st id (.bx (i.z.map .v)))
  | .box t x => onO (ev env x) fun r => ntup r (∀ id, st id = none → K (.c (.ptr id 0)) (upd st id (.bx (avc r))))
  | .build t ps => onO (parts env ps.toList) fun ps => onO (T t) fun i => onO (plcs T i.d) fun fs => if fs.all (fun p => (T p.2).isSome) = true then onO (fillC (plc T fs) (i.z.map .v) ps) fun out => K (.g out) st else False
  | .buildSlice t n ps => onO (parts env ps.toList) fun ps => onO (T t) fun i => slE i.d fun e => onO (T e) fun z => if n * z.size ≤ 16777216 ∧ n ≤ maxLen then
      onO (fillR z.size (List.replicate n (z.z.map .v)) ps) fun rows => ∀ id, st id = none → K (.c (.arr id 0 n)) (upd st id (.ar z.size rows)) else False
  | .load t p => ev2 env p fun p => rdv st p fun cs => onO (ldc T t cs) fun r => K r st
  | .store t p x => ev2 env p fun p => onO (ev env x) fun r => onO (T t) fun i => ntup r (if (avc r).length = i.size then wrv st p (avc r) fun st' => K (.t []) st' else False)
  | .nilCheck x => ev2 env x fun p => match p with
    | .ptr _ _ => K (.c p) st
    | .pe _ _ _ => K (.c p) st
    | .ep _ => K (.c p) st
    | _ => False
  | .binOp op t x y _ => onO (ev env x) fun r => match r with
    | .c x => ev2 env y fun y => onO (T t) fun i => if typOk i.d x y = true then vbin op x y fun r => K r st else False
    | .g xs => onO (ev env y) fun r' => match r' with
      | .g ys => onO (T t) fun i => stE i.d fun fs => eqP T xs ys fs fun p => sBin op p fun r => K r st
      | _ => False
    | .t _ => False
  | .unOp op t x => onO (ev env x) fun x => match op with
    | .not => onT x fun b => K (vB (!b)) st
    | .neg => onI x fun k n => K (vI k (k.wrap (0 - n))) st
    | _ => False
  | .fieldAddr t x n => ev2 env x fun p => onO (T t) fun i => stE i.d fun fs => onO fs[n]? fun f => onO (T f.2) fun j => if j.size ≠ 0 then onO (fdp p f.1) fun q => K (.c q) st else False
  | .indexAddr t x y => ev2 env x fun x => onO (ev env y) fun y => onI y fun k n => onO (T t) fun i => match i.d with
    | .ay m e => onO (T e) fun j => ixa st j.size m x n fun p => K (.c p) st
    | d => slE d fun e => onO (T e) fun j => ixv st j.size x n fun p => K (.c p) st
  | .index t x y => onO (ev env x) fun r => onO (ev env y) fun y => onI y fun k n => onO (T t) fun i => match r with
    | .c (.v (.string s)) => if isSD i.d = true then 0 ≤ n ∧ n < s.size ∧ K (vI .u8 (by_ s n)) st else False
    | .g cs => ayE i.d fun m e => onO (T e) fun z => 0 ≤ n ∧ n < m ∧ onO (ldc T e (cs.drop (n.toNat * z.size))) fun r => K r st
    | _ => False
  | .extract x n => onO (ev env x) fun x => match x with
    | .t vs => onO vs[n]? fun r => K r st
    | _ => False
  | .makeFunc (.func f) first caps => if first.size = 0 then onO (evs env caps.toList) fun cs => onO (cs.mapM (fun r => match r with | .c x => some x | _ => none)) fun cs => K (.c (.fn f cs)) st
    else if first.size = 1 ∧ caps.size = 0 then onO (evs env first.toList) fun cs => match cs with | [.c x] => K (.c (.ab (bmA f x))) st | _ => False else False
  | .makeSlice t l c => onO (ev env l) fun l => onI l fun k n => onO (ev env c) fun c => onI c fun k' n' => onO (T t) fun i => slE i.d fun e => onO (T e) fun z => n = n' ∧ 0 ≤ n ∧ n ≤ 9223372036854775807 ∧ n.toNat ≤ maxLen ∧ z.bytes * n ≤ 140737488355328 ∧ z.size ≠ 0 ∧
      ∀ id, st id = none → K (.c (.arr id 0 n.toNat)) (upd st id (.ar z.size (List.replicate n.toNat (z.z.map .v))))
  | .slice t x lo hi none => ev2 env x fun x => onO (T t) fun i => match x with
    | .v (.string s) => if isSD i.d = true then bnd env lo hi s.size fun l h => K (vS (s.extract l h)) st else False
    | .sl z xs => slE i.d fun e => onO (T e) fun j => if z = j.size then bnd env lo hi xs.length fun l h => K (.c (.sl z ((xs.take h).drop l))) st else False
    | .arr id off len => slE i.d fun e => onO (T e) fun j => (∃ rows, st id = some (.ar j.size rows)) ∧ bnd env lo hi len fun l h => K (.c (.arr id (off + l) (h - l))) st
    | .pe id 0 0 => ayE i.d fun m e => onO (T e) fun j => m ≤ maxLen ∧ (∃ rows, st id = some (.ar j.size rows) ∧ rows.length = m) ∧ bnd env lo hi m fun l h => K (.c (.arr id l (h - l))) st
    | _ => False
  | .convert s d x => ev2 env x fun x => vcvt T s d x st fun y st => K (.c y) st
  | .call c => match c.callee with
    | .value f => ev2 env f fun f => match f with
      | .fn f caps => onO (evs env c.args.toList) fun as => Does P f (as ++ caps.map .c) st K
      | .ab F => ∃ g x, F = bmA g x ∧ onO (evs env c.args.toList) fun as => Does P g (.c x :: as) st K
      | _ => False
    | .builtin b => vblt T env st b c.argTypes.toList c.args.toList K
    | _ => False
  | _ => False
theorem RV.cel {G : Gh} {w : World} {x : AC} {v : Value} (h : RV G w (.c x) v) : RC G w x v := by cases h; assumption
variable {P : Program} {T : TT} {N : Nat} {env : Env} {st : Sto}
theorem OpOk.skip {o : Oper} {K : Env → Sto → Prop} (h : ∀ G w a, Inv G w st → RE N G w env a → ∃ w' G' st', (execOp a.eval o).run P w = .ok .skip w' ∧ K (put N env o.dst (.t [])) st' ∧ Ext G w G' w' ∧ Inv G' w' st') : OpOk P N o env st K := by
  intro ρ G w a hI hE Q
  obtain ⟨w', G', st', h1, h2, h3, h4⟩ := h G w a hI hE
  refine wpK h1 ?_
  exact ⟨G', _, st', h2, h3, h4, (hE.ext h3).put (.t [] _ rfl (fun j x v h _ => by simp at h)) _⟩
theorem blt_ok (TP : TOk P T) {b : Builtin} {ts : Array TypeId} {xs : Array Operand} {K : AV → Sto → Prop} {ty : TypeId} {cs : Array Bool} (h : vblt T env st b ts.toList xs.toList K) {G : Gh} {w : World} {a : Act} (hI : Inv G w st) (hE : RE N G w env a) :
    ∃ s : Sem Value, builtin b ts ty cs (xs.map a.eval) = (do pure (.value (← s))) ∧ Runs P G w s K := by
  unfold vblt at h
  split at h
  · rename_i hts hxs
    obtain ⟨c, h1, h⟩ := ev2_ok h
    obtain ⟨i, hi, h⟩ := onO_iff.1 h
    obtain ⟨n, hn, h⟩ := onO_iff.1 h
    split at h
    · rename_i hd
      have hK : K (vI .i64 n) st := h
      clear h
      have e1 : ts = #[_] := Array.toList_inj.1 hts
      have e2 : xs = #[_] := Array.toList_inj.1 hxs
      subst e1 e2
      refine ⟨_, rfl, ?_⟩
      have hr := ev_ok hE h1
      simp only [List.map_toArray, List.map_cons, List.map_nil]
      generalize a.eval _ = v at hr ⊢
      have hc : RC G w c v := by cases hr; assumption
      cases hc with
      | v x h1 =>
        unfold lenp at hn
        split at hn
        · rename_i heq; cases heq
        · rename_i heq; cases heq
        · rename_i heq; cases heq; cases hn
          have hd' : isSl i.d = true := by simpa [isS] using hd
          cases hdd : i.d <;> rw [hdd] at hd' <;> cases hd'
          exact runB hI (by rw [run_len_slice w _ _ _ _ _ (und_el (und_sl TP hi hdd))]; rfl) rfl hK
        · rename_i heq; cases heq; cases hn
          have hd' : isSD i.d = true := by simpa [isS] using hd
          cases hdd : i.d <;> rw [hdd] at hd' <;> cases hd'
          exact runB hI (by rw [run_len_string w _ _ _ (und_s TP hi hdd)]; rfl) rfl hK
        · cases hn
      | sl z xs A len cap vs hl hc hm hs g o ha hcell hh =>
        cases hn
        subst hl
        have hd' : isSl i.d = true := by simpa [isS] using hd
        cases hdd : i.d <;> rw [hdd] at hd' <;> cases hd'
        exact runB hI (by rw [run_len_slice w _ _ _ _ _ (und_el (und_sl TP hi hdd))]; rfl) rfl hK
      | arr id off len A cap hU hc hm ha =>
        cases hn
        have hd' : isSl i.d = true := by simpa [isS] using hd
        cases hdd : i.d <;> rw [hdd] at hd' <;> cases hd'
        exact runB hI (by rw [run_len_slice w _ _ _ _ _ (und_el (und_sl TP hi hdd))]; rfl) rfl hK
      | _ => cases hn
    · exact h.elim
  · rename_i hts hxs
    obtain ⟨x, h1, h⟩ := ev2_ok h
    obtain ⟨y, h2, h⟩ := ev2_ok h
    obtain ⟨i, hi, h⟩ := onO_iff.1 h
    obtain ⟨j, hj, h⟩ := onO_iff.1 h
    obtain ⟨e, hd, h⟩ := slE_ok h
    obtain ⟨z, hz, h⟩ := onO_iff.1 h
    split at h
    · rename_i hc
      obtain ⟨hc, hp⟩ := hc
      have e1 : ts = #[_, _] := Array.toList_inj.1 hts
      have e2 : xs = #[_, _] := Array.toList_inj.1 hxs
      subst e1 e2
      refine ⟨_, rfl, ?_⟩
      have hx := (ev_ok hE h1).cel
      have hy := (ev_ok hE h2).cel
      simp only [List.map_toArray, List.map_cons, List.map_nil]
      refine Runs.append TP hI hi hd hz hp hj hx hy ?_ ?_
      · cases hs : isS y
        · rw [hs] at hc
          have hc' : isSl j.d = true := by simpa using hc
          left
          refine ⟨?_, fun s e => by rw [e] at hs; cases hs⟩
          cases hdd : j.d <;> rw [hdd] at hc' <;> first | exact ⟨_, rfl⟩ | cases hc'
        · rw [hs] at hc
          have hc' : isSD j.d = true := by simpa using hc
          right
          refine ⟨(by cases hdd : j.d <;> rw [hdd] at hc' <;> first | rfl | cases hc'), ?_⟩
          unfold isS at hs
          split at hs
          · exact ⟨_, rfl⟩
          · cases hs
      · obtain ⟨ys, h3, h4⟩ := srcv_ok h
        exact ⟨ys, h3, h4.out⟩
    · exact h.elim
  · rename_i hts hxs
    obtain ⟨x, h1, h⟩ := ev2_ok h
    obtain ⟨y, h2, h⟩ := ev2_ok h
    obtain ⟨i, hi, h⟩ := onO_iff.1 h
    obtain ⟨j, hj, h⟩ := onO_iff.1 h
    obtain ⟨e, hd, h⟩ := slE_ok h
    obtain ⟨z, hz, h⟩ := onO_iff.1 h
    split at h
    · rename_i hc
      have e1 : ts = #[_, _] := Array.toList_inj.1 hts
      have e2 : xs = #[_, _] := Array.toList_inj.1 hxs
      subst e1 e2
      refine ⟨_, rfl, ?_⟩
      have hx := (ev_ok hE h1).cel
      have hy := (ev_ok hE h2).cel
      simp only [List.map_toArray, List.map_cons, List.map_nil]
      obtain ⟨ys, h3, h4⟩ := srcv_ok h
      refine Runs.copy TP hI hi hd hz hj hx hy ?_ h3 h4
      cases hs : isS y
      · rw [hs] at hc
        have hc' : isSl j.d = true := by simpa using hc
        left
        refine ⟨?_, fun s e => by rw [e] at hs; cases hs⟩
        cases hdd : j.d <;> rw [hdd] at hc' <;> first | exact ⟨_, rfl⟩ | cases hc'
      · rw [hs] at hc
        have hc' : isSD j.d = true := by simpa using hc
        right
        refine ⟨(by cases hdd : j.d <;> rw [hdd] at hc' <;> first | rfl | cases hc'), ?_⟩
        unfold isS at hs
        split at hs
        · exact ⟨_, rfl⟩
        · cases hs
    · exact h.elim
  · rename_i hxs
    obtain ⟨x, h1, h⟩ := onO_iff.1 h
    obtain ⟨y, h2, h⟩ := onO_iff.1 h
    have e2 : xs = #[_, _] := Array.toList_inj.1 hxs
    subst e2
    refine ⟨_, rfl, ?_⟩
    have hx := ev_ok hE h1
    have hy := ev_ok hE h2
    unfold onI at h
    split at h
    · split at h
      · split at h
        · rename_i hk
          subst hk
          cases hx with
          | c _ u hx =>
            cases hy with
            | c _ v hy =>
              generalize hu : a.eval _ = u at hx
              generalize hv : a.eval _ = v at hy
              cases hx; cases hy
              simp only [List.map_toArray, List.map_cons, List.map_nil, hu, hv]
              exact runB hI (run_max_int2 _ _ _ _ _ _ _) rfl h
        · exact h.elim
      · exact h.elim
    · exact h.elim
  · exact h.elim
end Go.Proofs.YtnafgpgbedcdnaaDoor.D.Pm
namespace Go.Proofs.YtnafgpgbedcdnaaDoor.D.Pm
set_option linter.unusedVariables false
set_option linter.unusedSimpArgs false
open Go
variable {P : Program} {T : TT} {N : Nat} {env : Env} {st : Sto}
theorem OpOk.v1 {o : Oper} {K : Env → Sto → Prop} {s : (Operand → Value) → Sem Value} (ho : ∀ ρ, execOp ρ o = (do pure (.value (← s ρ))))
    (h : ∀ G w a, Inv G w st → RE N G w env a → Runs P G w (s a.eval) (fun r st' => K (put N env o.dst r) st')) : OpOk P N o env st K := .val s ho h
theorem RV.int {G : Gh} {w : World} {r : AV} {v : Value} (h : RV G w r v) {F : IntKind → Int → Prop} (hf : onI r F) : ∃ k n, r = .c (.v (.int k n)) ∧ v = .int k n ∧ F k n := by
  unfold onI at hf
  split at hf
  · cases h with
    | c _ _ h => cases h; exact ⟨_, _, rfl, rfl, hf⟩
  · exact hf.elim
theorem ntup_ok {r : AV} {F : Prop} (h : ntup r F) : (∀ l, r ≠ .t l) ∧ F := by
  cases r <;> first | exact h.elim | exact ⟨fun l e => (by cases e), h⟩
theorem bnd_ok {G : Gh} {w : World} {a : Act} (hE : RE N G w env a) {lo hi : Option Operand} {n : Nat} {F : Nat → Nat → Prop} (h : bnd env lo hi n F) :
    ∃ l h' : Int, 0 ≤ l ∧ l ≤ h' ∧ h' ≤ n ∧ F l.toNat h'.toNat ∧ (lo.map a.eval = none ∧ l = 0 ∨ ∃ k, lo.map a.eval = some (.int k l)) ∧ (hi.map a.eval = none ∧ h' = n ∨ ∃ k, hi.map a.eval = some (.int k h')) := by
  have key : ∀ (x : Option Operand) (d : Int) (Q : Int → Prop), bd env x d Q → ∃ l, Q l ∧ (x.map a.eval = none ∧ l = d ∨ ∃ k, x.map a.eval = some (.int k l)) := by
    intro x d Q hq
    unfold bd at hq
    cases x with
    | none => exact ⟨d, hq, .inl ⟨rfl, rfl⟩⟩
    | some x =>
      obtain ⟨r, h1, h2⟩ := onO_iff.1 hq
      split at h2
      · have := (ev_ok hE h1).cel
        rename_i k l
        refine ⟨l, h2, .inr ⟨k, ?_⟩⟩
        show some (a.eval x) = _
        generalize a.eval x = u at this
        cases this
        rfl
      · exact h2.elim
  obtain ⟨h', h1, h2⟩ := key hi n _ h
  obtain ⟨l, ⟨h3, h4, h5, h6⟩, h7⟩ := key lo 0 _ h1
  exact ⟨l, h', h3, h4, h5, h6, h7, h2⟩
theorem slice_run {w : World} {t e : TypeId} (hu : P.underlying t = some (.slice e)) {sz : Nat} (hs : (sizeOf e).run P w = .ok sz w) (A : Option Addr) (len cap : Nat) (hc : len ≤ cap) {lo hi : Option Value} {l h : Int} (h0 : 0 ≤ l) (h1 : l ≤ h) (h2 : h ≤ len)
    (hl : lo = none ∧ l = 0 ∨ ∃ k, lo = some (.int k l)) (hh : hi = none ∧ h = len ∨ ∃ k, hi = some (.int k h)) : (Instr.sliceAt t (.slice A len cap) lo hi none).run P w = .ok (sliced A l.toNat h.toNat cap sz) w := by
  have he := elem_of hu
  rw [run_sliceAt_slice w t _ _ _ _ (und_el hu)]
  rcases hl with ⟨rfl, rfl⟩ | ⟨k, rfl⟩ <;> rcases hh with ⟨rfl, rfl⟩ | ⟨k', rfl⟩
  · rw [run_slice_all w t A len cap (und_el hu), he, hs]; simp
  · rw [run_slice_h w t A len cap (und_el hu) k' h (by omega) (by omega), he, hs]; simp
  · rw [run_slice_l w t A len cap (und_el hu) k l h0 (by omega), he, hs]; simp
  · rw [run_slice_lh w t A len cap (und_el hu) k k' l h h0 h1 (by omega), he, hs]; simp
theorem str_run {w : World} {t : TypeId} (hu : P.underlying t = some .string) (s : ByteArray) {lo hi : Option Value} {l h : Int} (h0 : 0 ≤ l) (h1 : l ≤ h) (h2 : h ≤ s.size)
    (hl : lo = none ∧ l = 0 ∨ ∃ k, lo = some (.int k l)) (hh : hi = none ∧ h = s.size ∨ ∃ k, hi = some (.int k h)) : (Instr.sliceAt t (.string s) lo hi none).run P w = .ok (.string (s.extract l.toNat h.toNat)) w := by
  rw [run_sliceAt_string w t _ _ _ _ hu]
  rcases hl with ⟨rfl, rfl⟩ | ⟨k, rfl⟩ <;> rcases hh with ⟨rfl, rfl⟩ | ⟨k', rfl⟩
  · simp [Instr.slice, run_underlying hu, Instr.sliceBounds]
  · simp [Instr.slice, run_underlying hu, Instr.sliceBounds, run_sliceBound, *]
  · simp [Instr.slice, run_underlying hu, Instr.sliceBounds, run_sliceBound, *]
  · have e2 := run_sliceBound (P := P) (w := w) k' h s.size .sliceAlen (by omega) (by omega)
    have e1 := run_sliceBound (P := P) (w := w) k l h.toNat .sliceB h0 (by omega)
    simp [Instr.slice, run_underlying hu, Instr.sliceBounds, e1, e2]
theorem run_bs {w : World} {t e : TypeId} {sz n : Nat} {zv : Value} (hu : P.underlying t = some (.slice e)) (hs : (sizeOf e).run P w = .ok sz w) (hz : (zeroValue e).run P w = .ok zv w) (h24 : n * sz ≤ 16777216) (ps : Array (Nat × Value)) (arr : Array Value)
    (hf : Instr.fill (fun i => some (i * sz, sz)) ((Array.range (n * sz)).map (zv.cells[· % zv.cells.size]!)) ps.toList = some arr) : (Instr.buildSlice t n ps).run P w = .ok (.slice (some ⟨w.heap.size, 0, none⟩) n n) (w.alloc (.cells arr e)) := by
  have h : ¬ 2 ^ 24 < n * sz := Nat.not_lt.2 h24
  unfold Instr.buildSlice
  simp only [Sem.run_bind, run_underlying hu, Result.andThen, hs, if_neg h]
  by_cases h0 : n * sz = 0
  · rw [if_pos h0]
    rw [h0] at hf ⊢
    simp only [Sem.run_bind, Sem.run_pure, hz, Result.andThen]
    have e0 : (Array.range 0).map (zv.cells[· % zv.cells.size]!) = #[] := by simp
    have e1 : ∀ f : Nat → Value, (Array.range 0).map f = #[] := fun f => by simp
    rw [e1] at hf
    simp only [e1]
    rw [hf]
    rfl
  · rw [if_neg h0]
    simp only [Sem.run_bind, Sem.run_pure, hz, Result.andThen, hf]
    rfl
theorem Runs.buildSliceAt {P : Program} {T : TT} (TP : TOk P T) {G : Gh} {w : World} {st : Sto} (hI : Inv G w st) {t e : TypeId} {i z : TI} (h2 : T t = some i) (h3 : i.d = .sl e) (h4 : T e = some z) {n : Nat} (hs1 : n * z.size ≤ 16777216) (hs3 : n ≤ maxLen)
    {parts : List (Nat × AV)} {vs : Array (Nat × Value)} (hp : F2 (fun p q => p.1 = q.1 ∧ RV G w p.2 q.2) parts vs.toList) {rows : List (List AC)} (h6 : fillR z.size (List.replicate n (z.z.map .v)) parts = some rows) (id : Nat) (hfr : G.Fr id) :
    ∃ v w' sz, (Instr.buildSlice t n vs).run P w = .ok v w' ∧ Ext G w (G.add id w.heap.size sz) w' ∧ Inv (G.add id w.heap.size sz) w' (upd st id (.ar z.size rows)) ∧ RV (G.add id w.heap.size sz) w' (.c (.arr id 0 n)) v := by
  have hu := und_sl TP h2 h3
  obtain ⟨zv, hz1, hz2, hz3, hz4, _⟩ := zero_ok TP (G := G) (w := w) h4
  have hrel := zeros_ok (G := G) (w := w) hz4 zv.cells hz2 n
  have hrep : ∀ q ∈ List.replicate n (z.z.map AC.v), q.length = z.size := fun q hq => by rw [(List.mem_replicate.1 hq).2, List.length_map, hz3]
  obtain ⟨arr, ha, hb, hc, hd⟩ := fillR_ok hrep hrel hp h6
  have hlen : rows.length = n := by rw [hc, List.length_replicate]
  have hsz : arr.size = n * z.size := by
    have := hd.1
    rw [flat_len hb, hlen] at this
    rw [← this]; exact (Array.length_toList ..).symm
  have hle : (Ob.ar z.size rows).cells.length ≤ arr.size := by
    show rows.flatten.length ≤ _
    rw [flat_len hb, hlen, hsz]
    exact Nat.le_refl _
  obtain ⟨hX, hI'⟩ := hI.alloc (w' := w.alloc (.cells arr e)) hfr (.ar z.size rows) z.size arr e rfl ⟨rfl, hb⟩ hle (fun j c v x y => hd.2 j c v x (by rw [Array.getElem?_toList]; exact y))
  have hzz := run_size TP (w := w) h4
  rw [hz3] at ha
  have hrun := run_bs (P := P) (w := w) hu hzz hz1 hs1 vs arr ha
  refine ⟨_, _, _, hrun, hX, hI', .c _ _ (.arr id 0 n _ n (.inr rfl) (Nat.le_refl _) hs3 (fun g sz hbb => ?_))⟩
  change (if id = id then _ else _) = _ at hbb
  rw [if_pos rfl] at hbb
  cases hbb
  exact ⟨arr, e, heap_alloc_new w _, .inr (by rw [Nat.zero_mul]; rfl), by rw [Nat.zero_add, hsz]; exact Nat.le_refl _⟩
theorem Runs.buildSlice {P : Program} {T : TT} (TP : TOk P T) {G : Gh} {w : World} {st : Sto} (hI : Inv G w st) {t e : TypeId} {i z : TI} (h2 : T t = some i) (h3 : i.d = .sl e) (h4 : T e = some z) {n : Nat} (hs1 : n * z.size ≤ 16777216) (hs3 : n ≤ maxLen)
    {parts : List (Nat × AV)} {vs : Array (Nat × Value)} (hp : F2 (fun p q => p.1 = q.1 ∧ RV G w p.2 q.2) parts vs.toList) {rows : List (List AC)} (h6 : fillR z.size (List.replicate n (z.z.map .v)) parts = some rows) {K : AV → Sto → Prop}
    (h : ∀ id, st id = none → K (.c (.arr id 0 n)) (upd st id (.ar z.size rows))) : Runs P G w (Instr.buildSlice t n vs) K := by
  obtain ⟨id, hfr, hfn⟩ := hI.fresh
  obtain ⟨v, w', sz, k1, k2, k3, k4⟩ := Runs.buildSliceAt TP hI h2 h3 h4 hs1 hs3 hp h6 id hfr
  exact ⟨v, w', _, _, _, k1, h id hfn, k2, k3, k4⟩
theorem Runs.make {P : Program} {T : TT} (TP : TOk P T) {G : Gh} {w : World} {st : Sto} (hI : Inv G w st) {t e : TypeId} {i z : TI} (h3 : T t = some i) (h4 : i.d = .sl e) (h5 : T e = some z) {k k' : IntKind} {n : Int} (h6 : 0 ≤ n) (h7 : n ≤ 9223372036854775807) (h8 : n.toNat ≤ maxLen)
    (h9 : z.bytes * n ≤ 140737488355328) (h10 : z.size ≠ 0) {K : AV → Sto → Prop} (h : ∀ id, st id = none → K (.c (.arr id 0 n.toNat)) (upd st id (.ar z.size (List.replicate n.toNat (z.z.map .v))))) : Runs P G w (Instr.makeSlice t (.int k n) (.int k' n)) K := by
  have hu := und_sl TP h3 h4
  obtain ⟨ni, hn, hns, hnb, ⟨zv, hz0, hzc, _⟩, hzl, hzo⟩ := TP.f e z h5
  have hrun := run_make (P := P) w t e ni zv hu hn hz0 k k' n n h6 (Int.le_refl _) (by rw [hnb]; omega) h7
  have hrel := zeros_ok (G := G) (w := w) hzo zv.cells hzc n.toNat
  have hrep : ∀ q ∈ List.replicate n.toNat (z.z.map AC.v), q.length = z.size := fun q hq => by rw [(List.mem_replicate.1 hq).2, List.length_map, hzl]
  obtain ⟨id, hfr, hfn⟩ := hI.fresh
  have hsz : (madeCells zv.cells (n.toNat * ni.size)).size = n.toNat * z.size := by rw [size_madeCells, hns]
  have hle : (Ob.ar z.size (List.replicate n.toNat (z.z.map .v))).cells.length ≤ (madeCells zv.cells (n.toNat * ni.size)).size := by
    show (List.replicate n.toNat (z.z.map AC.v)).flatten.length ≤ _
    rw [flat_len hrep, List.length_replicate, hsz]
    exact Nat.le_refl _
  obtain ⟨hX, hI'⟩ := hI.alloc (w' := w.alloc (.cells (madeCells zv.cells (n.toNat * ni.size)) e)) hfr (.ar z.size (List.replicate n.toNat (z.z.map .v))) z.size _ e rfl ⟨rfl, hrep⟩ hle (fun j c v x y => hrel.2 j c v x (by
    rw [hns, ← hzl] at y
    rw [Array.getElem?_toList]; exact y))
  refine ⟨_, _, _, _, _, hrun, h id hfn, hX, hI', .c _ _ (.arr id 0 _ _ _ (.inr rfl) (Nat.le_refl _) h8 (fun g sz hbb => ?_))⟩
  change (if id = id then _ else _) = _ at hbb
  rw [if_pos rfl] at hbb
  cases hbb
  exact ⟨_, e, heap_alloc_new w _, .inr (by rw [Nat.zero_mul]; rfl), by rw [Nat.zero_add, hsz]; exact Nat.le_refl _⟩
theorem caps_ok {cs : List AV} {G : Gh} {w : World} {vs : Array Value} (h : RVs G w cs vs) {out : List AC} (hm : cs.mapM (fun r => match r with | .c x => some x | _ => none) = some out) : out.length = cs.length ∧ ∀ (j : Nat) c v, out[j]? = some c → vs[j]? = some v → RC G w c v := by
  have key : ∀ (cs : List AV) (out : List AC), cs.mapM (fun r => match r with | .c x => some x | _ => none) = some out → cs = out.map .c := by
    intro cs
    induction cs with
    | nil => intro out h; simp at h; subst h; rfl
    | cons r cs ih =>
      intro out h
      simp only [List.mapM_cons, Option.bind_eq_bind, Option.pure_def] at h
      obtain ⟨x, h1, h⟩ := Option.bind_eq_some_iff.1 h
      obtain ⟨l, h2, h⟩ := Option.bind_eq_some_iff.1 h
      cases h
      cases r with
      | c y => cases h1; rw [ih _ h2]; rfl
      | g _ => cases h1
      | t _ => cases h1
  have := key cs out hm
  subst this
  refine ⟨by simp, fun j c v h1 h2 => ?_⟩
  exact (h.2 j (.c c) v (by rw [List.getElem?_map, h1]; rfl) h2).cel
theorem Runs.allocA {P : Program} {T : TT} (TP : TOk P T) {G : Gh} {w : World} {st : Sto} (hI : Inv G w st) {t e : TypeId} {i z : TI} {n : Nat} (hi : T t = some i) (hd : i.d = .ay n e) (hz : T e = some z) (hzz : i.z = (List.replicate n z.z).flatten) {K : AV → Sto → Prop}
    (hk : ∀ id, st id = none → K (.c (.pe id 0 0)) (upd st id (.ar z.size (List.replicate n (z.z.map .v))))) : Runs P G w (Instr.alloc t true (.tuple #[])) K := by
  obtain ⟨v, hv, hvc, hl, ho, hrel⟩ := zero_ok TP (G := G) (w := w) hi
  obtain ⟨_, _, _, _, hzl, _⟩ := zero_ok TP (G := G) (w := w) hz
  have hzl : z.z.length = z.size := by obtain ⟨n, h1, h2, h3, _, h5, _⟩ := TP.f e z hz; exact h5
  obtain ⟨id, hu, hn⟩ := hI.fresh
  have hfl : (List.replicate n (z.z.map AC.v)).flatten = i.z.map AC.v := by
    rw [hzz, List.map_flatten]
    congr 1
    simp
  obtain ⟨hx, hI'⟩ := hI.alloc (w' := w.alloc (.cells v.cells t)) hu (.ar z.size (List.replicate n (z.z.map .v))) z.size v.cells t rfl ⟨rfl, fun r hr => by rw [List.eq_of_mem_replicate hr, List.length_map, hzl]⟩ (by
    show (List.replicate n (z.z.map AC.v)).flatten.length ≤ _
    rw [hfl, List.length_map, ← hvc]; simp) (fun j c x hj hx => hrel j c x (by rw [← hfl]; exact hj) (by simpa using hx))
  refine ⟨_, _, _, _, _, ?_, hk id hn, hx, hI', .c _ _ (.pe id 0 0 (adr w.heap.size 0) (.inr rfl) (fun g sz hb => ?_))⟩
  · simp [Instr.alloc, hv, newVar, newRow, adr]
  · change (if id = id then _ else _) = _ at hb
    rw [if_pos rfl] at hb
    cases hb
    simp
theorem Runs.indexA {P : Program} {T : TT} (TP : TOk P T) {G : Gh} {w : World} {st : Sto} (hI : Inv G w st) {t e : TypeId} {i j : TI} {m : Nat} (hi : T t = some i) (hd : i.d = .ay m e) (hj : T e = some j) {x : AC} {v : Value} (hx : RC G w x v) {k : IntKind} {n : Int}
    {K : AV → Sto → Prop} (h : ixa st j.size m x n (fun p => K (.c p) st)) : Runs P G w (Instr.indexAt t v (.int k n)) K := by
  have hu := und_ay TP hi hd
  have hsz := run_size TP (w := w) hj
  cases hx with
  | pe id r o A hn ha =>
    unfold ixa at h
    split at h
    · rename_i heq
      cases heq
      obtain ⟨h0, h1, ⟨rows, hst⟩, hk⟩ := h
      obtain ⟨g, sz, hU, hb, cs, e', hw, ⟨hz, hrows⟩, _⟩ := hI.get hst
      have hA := ha g sz hb
      subst hA
      refine .pure hI (v := .pointer (some ((adr g (r * sz + 0)).add (n.toNat * j.size)))) ?_ hk (.c _ _ (.pe id _ _ _ hn (fun g' sz' hb' => ?_)))
      · have hlt : n.toNat < m := by omega
        simp [Instr.indexAt, asIntOf, run_underlying hu, Instr.sureAddr, hsz, h0, h1]
      · rw [hb] at hb'
        cases hb'
        rw [adr_add, hz, Nat.add_mul]
        simp
    · exact h.elim
  | _ => exact h.elim
theorem arr_run {w : World} {t e : TypeId} {m : Nat} (hu : P.underlying t = some (.array m e)) {sz : Nat} (hs : (sizeOf e).run P w = .ok sz w) (a : Addr) {lo hi : Option Value} {l h : Int} (h0 : 0 ≤ l) (h1 : l ≤ h) (h2 : h ≤ m)
    (hl : lo = none ∧ l = 0 ∨ ∃ k, lo = some (.int k l)) (hh : hi = none ∧ h = m ∨ ∃ k, hi = some (.int k h)) : (Instr.sliceAt t (.pointer (some a)) lo hi none).run P w = .ok (.slice (some (if m = l.toNat then a else a.add (l.toNat * sz))) (h.toNat - l.toNat) (m - l.toNat)) w := by
  have e1 : ∀ x y : Int, 0 ≤ x → x ≤ y → (if 0 ≤ x ∧ x ≤ y then (1 : Nat) else 0) = 1 := fun x y a b => if_pos ⟨a, b⟩
  rcases hl with ⟨rfl, rfl⟩ | ⟨k, rfl⟩ <;> rcases hh with ⟨rfl, rfl⟩ | ⟨k', rfl⟩
  · simp [Instr.sliceAt, run_underlying hu, Instr.sureAddr, Instr.sliceBounds, hs]
  · simp [Instr.sliceAt, run_underlying hu, Instr.sureAddr, Instr.sliceBounds, Instr.sliceBound, asIntOf, hs, h1, h2]
  · simp [Instr.sliceAt, run_underlying hu, Instr.sureAddr, Instr.sliceBounds, Instr.sliceBound, asIntOf, hs, h0, h1]
  · have : 0 ≤ h := by omega
    have h3 : l ≤ (h.toNat : Int) := by omega
    simp [Instr.sliceAt, run_underlying hu, Instr.sureAddr, Instr.sliceBounds, Instr.sliceBound, asIntOf, hs, h0, h1, h2, this, h3]
    intro h4; omega
theorem vop_ok (TP : TOk P T) {o : Oper} {K : Env → Sto → Prop} (h : vop P T env st o.op fun r st' => K (put N env o.dst r) st') : OpOk P N o env st K := by
  obtain ⟨dst, op, ty, pos, after, guard⟩ := o
  cases op
  case move x =>
    obtain ⟨r, h1, h⟩ := onO_iff.1 h
    exact .move (.inl rfl) h1 h
  case assign x =>
    obtain ⟨r, h1, h⟩ := onO_iff.1 h
    exact .move (.inr rfl) h1 h
  case pick c x y =>
    obtain ⟨r, h1, h⟩ := onO_iff.1 h
    obtain ⟨b, rfl, h⟩ := onT_iff.1 h
    refine .v1 (s := fun ρ => do pure (if ← asBool (ρ c) then ρ x else ρ y)) (fun ρ => by simp [execOp]) fun G w a hI hE => ?_
    have hc := (ev_ok hE h1).cel
    generalize hv : a.eval c = u at hc
    cases hc
    cases b
    · obtain ⟨r, h2, h⟩ := onO_iff.1 h
      exact .pure hI (by simp [hv, asBool]) h (ev_ok hE h2)
    · obtain ⟨r, h2, h⟩ := onO_iff.1 h
      exact .pure hI (by simp [hv, asBool]) h (ev_ok hE h2)
  case alloc t =>
    obtain ⟨i, h1, h⟩ := onO_iff.1 h
    split at h
    · rename_i hd
      obtain ⟨z, h2, h3, h⟩ := onO_iff.1 h
      exact .v1 (s := fun ρ => Instr.alloc t true (.tuple #[])) (fun ρ => rfl) fun G w a hI hE => Runs.allocA TP hI h1 hd h2 h3 h
    · exact .v1 (s := fun ρ => Instr.alloc t true (.tuple #[])) (fun ρ => rfl) fun G w a hI hE => Runs.alloc TP hI h1 h
  case box t x =>
    obtain ⟨r, h1, h⟩ := onO_iff.1 h
    obtain ⟨h2, h⟩ := ntup_ok h
    exact .v1 (s := fun ρ => Instr.box t (ρ x)) (fun ρ => rfl) fun G w a hI hE => Runs.box hI (ev_ok hE h1) h2 h
  case build t ps =>
    obtain ⟨rs, h1, h⟩ := onO_iff.1 h
    obtain ⟨i, h2, h⟩ := onO_iff.1 h
    obtain ⟨fs, h3, h⟩ := onO_iff.1 h
    split at h
    · rename_i h4
      obtain ⟨out, h5, h⟩ := onO_iff.1 h
      exact .v1 (s := fun ρ => Instr.build t (ps.map fun (i, x) => (i, ρ x))) (fun ρ => rfl) fun G w a hI hE => Runs.buildA TP hI h2 h3 h4 (by simpa using parts_ok hE h1) h5 h
    · exact h.elim
  case buildSlice t n ps =>
    obtain ⟨rs, h1, h⟩ := onO_iff.1 h
    obtain ⟨i, h2, h⟩ := onO_iff.1 h
    obtain ⟨e, h3, h⟩ := slE_ok h
    obtain ⟨z, h4, h⟩ := onO_iff.1 h
    split at h
    · rename_i h5
      obtain ⟨rows, h6, h⟩ := onO_iff.1 h
      exact .v1 (s := fun ρ => Instr.buildSlice t n (ps.map fun (i, x) => (i, ρ x))) (fun ρ => by simp only [execOp]) fun G w a hI hE => Runs.buildSlice TP hI h2 h3 h4 h5.1 h5.2 (by simpa using parts_ok hE h1) h6 h
    · exact h.elim
  case load t p =>
    obtain ⟨p', h1, h⟩ := ev2_ok h
    obtain ⟨cs, h2, h⟩ := rdv_ok h
    obtain ⟨r, h3, h⟩ := onO_iff.1 h
    exact .v1 (s := fun ρ => Instr.loadAt t (ρ p)) (fun ρ => by simp only [execOp]) fun G w a hI hE => Runs.load TP hI (ev_ok hE h1).cel h2 h3 h
  case store t p x =>
    obtain ⟨p', h1, h⟩ := ev2_ok h
    obtain ⟨r, h2, h⟩ := onO_iff.1 h
    obtain ⟨i, h3, h⟩ := onO_iff.1 h
    obtain ⟨h4, h⟩ := ntup_ok h
    split at h
    · rename_i h5
      obtain ⟨id, o', h6, h⟩ := wrv_ok h
      refine .skip fun G w a hI hE => ?_
      obtain ⟨w', h7, h8, h9⟩ := store_ok TP hI h3 (ev_ok hE h1).cel (ev_ok hE h2) h4 h5 h6
      exact ⟨w', G, _, by simp [execOp, h7], h, h8, h9⟩
    · exact h.elim
  case nilCheck x =>
    obtain ⟨p, h1, h⟩ := ev2_ok h
    refine .of fun G w a hI hE => ?_
    have hp := (ev_ok hE h1).cel
    split at h
    · have hv : ∃ A, a.eval x = .pointer (some A) := by generalize a.eval x = u at hp; cases hp; exact ⟨_, rfl⟩
      obtain ⟨A, hv⟩ := hv
      exact ⟨a.eval x, w, G, _, st, by simp [execOp, hv], h, Ext.refl _ _, hI, ev_ok hE h1⟩
    · have hv : ∃ A, a.eval x = .pointer (some A) := by generalize a.eval x = u at hp; cases hp; exact ⟨_, rfl⟩
      obtain ⟨A, hv⟩ := hv
      exact ⟨a.eval x, w, G, _, st, by simp [execOp, hv], h, Ext.refl _ _, hI, ev_ok hE h1⟩
    · have hv : ∃ A, a.eval x = .pointer (some A) := by generalize a.eval x = u at hp; cases hp; exact ⟨_, rfl⟩
      obtain ⟨A, hv⟩ := hv
      exact ⟨a.eval x, w, G, _, st, by simp [execOp, hv], h, Ext.refl _ _, hI, ev_ok hE h1⟩
    · exact h.elim
  case binOp op t x y yt =>
    obtain ⟨r, h1, h⟩ := onO_iff.1 h
    split at h
    · obtain ⟨d, h2, h⟩ := ev2_ok h
      obtain ⟨i, h3, h⟩ := onO_iff.1 h
      split at h
      · rename_i h4
        exact .v1 (s := fun ρ => do eqGuard op t x y (ρ x) (ρ y); binOp op t (ρ x) (ρ y)) (fun ρ => by simp only [execOp]) fun G w a hI hE => Runs.bin TP hI h3 (ev_ok hE h1).cel (ev_ok hE h2).cel h4 h
      · exact h.elim
    · obtain ⟨r', h2, h⟩ := onO_iff.1 h
      split at h
      · obtain ⟨i, h3, h⟩ := onO_iff.1 h
        obtain ⟨fs, h4, h⟩ := stE_ok h
        exact .v1 (s := fun ρ => do eqGuard op t x y (ρ x) (ρ y); binOp op t (ρ x) (ρ y)) (fun ρ => by simp only [execOp]) fun G w a hI hE => Runs.eqS TP hI h3 h4 (ev_ok hE h1) (ev_ok hE h2) h
      · exact h.elim
    · exact h.elim
  case unOp op t x =>
    obtain ⟨r, h1, h⟩ := onO_iff.1 h
    refine .v1 (s := fun ρ => Op.unary op (ρ x)) (fun ρ => by simp only [execOp]) fun G w a hI hE => ?_
    have hr := ev_ok hE h1
    split at h
    · obtain ⟨b, rfl, hk⟩ := onT_iff.1 h
      generalize a.eval x = u at hr ⊢
      have := hr.cel
      cases this
      exact runB hI rfl rfl hk
    · obtain ⟨k, n, rfl, hv, h⟩ := hr.int h
      rw [hv]
      exact runB hI (by simp [Op.unary, Op.intArith]) rfl h
    · exact h.elim
  case fieldAddr t x n =>
    obtain ⟨p, h1, h⟩ := ev2_ok h
    obtain ⟨i, h2, h⟩ := onO_iff.1 h
    obtain ⟨fs, h3, h⟩ := stE_ok h
    obtain ⟨f, h4, h⟩ := onO_iff.1 h
    obtain ⟨j, h5, h⟩ := onO_iff.1 h
    split at h
    · rename_i h6
      obtain ⟨q, h7, h⟩ := onO_iff.1 h
      exact .v1 (s := fun ρ => Instr.fieldAt t (ρ x) n) (fun ρ => by simp only [execOp]) fun G w a hI hE => Runs.field TP hI h2 h3 h4 h5 h6 (ev_ok hE h1).cel h7 h
    · exact h.elim
  case indexAddr t x y =>
    obtain ⟨p, h1, h⟩ := ev2_ok h
    obtain ⟨r, h2, h⟩ := onO_iff.1 h
    refine .v1 (s := fun ρ => Instr.indexAt t (ρ x) (ρ y)) (fun ρ => by simp only [execOp]) fun G w a hI hE => ?_
    obtain ⟨k, n, rfl, hv, h⟩ := (ev_ok hE h2).int h
    obtain ⟨i, h3, h⟩ := onO_iff.1 h
    split at h
    · rename_i hd
      obtain ⟨j, h5, h⟩ := onO_iff.1 h
      dsimp only
      rw [hv]
      exact Runs.indexA TP hI h3 hd h5 (ev_ok hE h1).cel h
    · obtain ⟨e, h4, h⟩ := slE_ok h
      obtain ⟨j, h5, h⟩ := onO_iff.1 h
      dsimp only
      rw [hv]
      exact Runs.index TP hI h3 h4 h5 (ev_ok hE h1).cel (ixv_ok h)
  case index t x y =>
    obtain ⟨p, h1, h⟩ := onO_iff.1 h
    obtain ⟨r, h2, h⟩ := onO_iff.1 h
    refine .v1 (s := fun ρ => Instr.index t (ρ x) (ρ y)) (fun ρ => by simp only [execOp]) fun G w a hI hE => ?_
    obtain ⟨k, n, rfl, hv, h⟩ := (ev_ok hE h2).int h
    obtain ⟨i, h3, h⟩ := onO_iff.1 h
    have hp := ev_ok hE h1
    dsimp only
    rw [hv]
    split at h
    · replace hp := hp.cel
      generalize a.eval x = u at hp ⊢
      cases hp
      split at h
      · rename_i hd
        cases hdd : i.d <;> rw [hdd] at hd <;> first | exact Runs.byte TP hI h3 hdd h.1 h.2.1 h.2.2 | cases hd
      · exact h.elim
    · obtain ⟨m, e, hd, h⟩ := ayE_ok h
      obtain ⟨z, hz, h4, h5, h⟩ := onO_iff.1 h
      obtain ⟨r, h6, h⟩ := onO_iff.1 h
      generalize a.eval x = u at hp ⊢
      cases hp with
      | g _ vs hl hh =>
        obtain ⟨v, k1, k2⟩ := part_ok TP ⟨hl, hh⟩ h6
        exact .pure hI (run_indexA TP h3 hd hz h4 h5 k1) h k2
    · exact h.elim
  case extract x n =>
    obtain ⟨r, h1, h⟩ := onO_iff.1 h
    refine .v1 (s := fun ρ => Instr.extract (ρ x) n) (fun ρ => by simp only [execOp]) fun G w a hI hE => ?_
    have hr := ev_ok hE h1
    split at h
    · obtain ⟨r, h2, h⟩ := onO_iff.1 h
      generalize a.eval x = u at hr ⊢
      cases hr with
      | t xs vs hl hh =>
        have hlt : n < vs.size := by rw [hl]; exact (List.getElem?_eq_some_iff.1 h2).1
        exact .pure hI (by simp [Instr.extract, Array.getElem?_eq_getElem hlt]) h (hh n r _ h2 (Array.getElem?_eq_getElem hlt))
    · exact h.elim
  case makeFunc fn first caps =>
    cases fn with
    | func f =>
      dsimp only [vop] at h
      split at h
      · rename_i h0
        obtain ⟨cs, h1, h⟩ := onO_iff.1 h
        obtain ⟨out, h2, h⟩ := onO_iff.1 h
        refine .v1 (s := fun ρ => Instr.makeFunc (.func f) (first.map ρ) (caps.map ρ)) (fun ρ => by simp only [execOp]) fun G w a hI hE => ?_
        have hr := evs_ok hE h1
        obtain ⟨h3, h4⟩ := caps_ok hr h2
        have hf : first = #[] := Array.eq_empty_of_size_eq_zero h0
        subst hf
        have hsz : (caps.map a.eval).size = out.length := by rw [h3]; have := hr.1; simpa using this
        refine .pure hI (v := .func (.func f) #[] (caps.map a.eval)) (by simp [Instr.makeFunc]) h (.c _ _ (.fn f out _ hsz (fun j => ((caps.map a.eval)[j]?).getD undef) (fun j c hj => ?_) (fun j c hj => ?_)))
        · have hlt : j < (caps.map a.eval).size := by rw [hsz]; exact (List.getElem?_eq_some_iff.1 hj).1
          rw [Array.getElem?_eq_getElem hlt]; rfl
        · have hlt : j < (caps.map a.eval).size := by rw [hsz]; exact (List.getElem?_eq_some_iff.1 hj).1
          rw [Array.getElem?_eq_getElem hlt]
          exact h4 j c _ hj (by simpa using Array.getElem?_eq_getElem hlt)
      · split at h
        · rename_i h1
          obtain ⟨cs, h2, h9⟩ := onO_iff.1 h
          clear h
          split at h9
          · rename_i x
            refine .v1 (s := fun ρ => Instr.makeFunc (.func f) (first.map ρ) (caps.map ρ)) (fun ρ => by simp only [execOp]) fun G w a hI hE => ?_
            have hr := evs_ok hE h2
            have hc : caps = #[] := Array.eq_empty_of_size_eq_zero h1.2
            obtain ⟨y, hy⟩ : ∃ y, first = #[y] := by
              obtain ⟨l⟩ := first
              match l, h1.1 with
              | [y], _ => exact ⟨y, rfl⟩
            subst hc hy
            have := hr.2 0 (.c x) (a.eval y) rfl (by simp)
            exact .pure hI (v := .func (.func f) #[a.eval y] #[]) (by simp [Instr.makeFunc]) h9 (.c _ _ (.ab _ _ ⟨_, rfl, this.cel⟩))
          · exact h9.elim
        · exact h.elim
    | _ => exact h.elim
  case makeSlice t l c =>
    obtain ⟨r, h1, h⟩ := onO_iff.1 h
    refine .v1 (s := fun ρ => Instr.makeSlice t (ρ l) (ρ c)) (fun ρ => by simp only [execOp]) fun G w a hI hE => ?_
    obtain ⟨k, n, rfl, hv, h⟩ := (ev_ok hE h1).int h
    obtain ⟨r', h2, h⟩ := onO_iff.1 h
    obtain ⟨k', n', rfl, hv', h⟩ := (ev_ok hE h2).int h
    obtain ⟨i, h3, h⟩ := onO_iff.1 h
    obtain ⟨e, h4, h⟩ := slE_ok h
    obtain ⟨z, h5, rfl, h6, h7, h8, h9, h10, h⟩ := onO_iff.1 h
    dsimp only
    rw [hv, hv']
    exact Runs.make TP hI h3 h4 h5 h6 h7 h8 h9 h10 h
  case slice t x lo hi mx =>
    cases mx with
    | some m => exact h.elim
    | none =>
      obtain ⟨p, h1, h⟩ := ev2_ok h
      obtain ⟨i, h2, h⟩ := onO_iff.1 h
      refine .v1 (s := fun ρ => Instr.sliceAt t (ρ x) (lo.map ρ) (hi.map ρ) none) (fun ρ => by simp only [execOp]; rfl) fun G w a hI hE => ?_
      have hp := (ev_ok hE h1).cel
      dsimp only
      split at h
      · split at h
        · rename_i hd
          obtain ⟨l, h', b1, b2, b3, h, b5, b6⟩ := bnd_ok hE h
          generalize a.eval x = u at hp ⊢
          cases hp
          cases hdd : i.d <;> rw [hdd] at hd <;> first | exact runB hI (str_run (und_s TP h2 hdd) _ b1 b2 b3 b5 b6) rfl h | cases hd
        · exact h.elim
      · obtain ⟨e, h3, h⟩ := slE_ok h
        obtain ⟨j, h4, h⟩ := onO_iff.1 h
        split at h
        · rename_i hz
          obtain ⟨l, h', b1, b2, b3, h, b5, b6⟩ := bnd_ok hE h
          obtain ⟨A, len, cap, hv, hl, hc, hr⟩ := cutp_ok (P := P) hI hp (l := l.toNat) (h := h'.toNat) rfl (by omega) (by omega) rfl j.size hz
          rw [hv]
          subst hl
          exact .pure hI (slice_run (und_sl TP h2 h3) (run_size TP h4) A _ cap hc b1 b2 b3 b5 b6) h (.c _ _ hr)
        · exact h.elim
      · obtain ⟨e, h3, h⟩ := slE_ok h
        obtain ⟨j, h4, ⟨rows, h5⟩, h⟩ := onO_iff.1 h
        obtain ⟨l, h', b1, b2, b3, hK, b5, b6⟩ := bnd_ok hE h
        clear h
        obtain ⟨A, len, cap, hv, hl, hc, hr⟩ := cutp_ok (P := P) hI hp (l := l.toNat) (h := h'.toNat) rfl (by omega) (by omega) rfl j.size ⟨_, rows, h5, rfl⟩
        rw [hv]
        subst hl
        exact .pure hI (slice_run (und_sl TP h2 h3) (run_size TP h4) A _ cap hc b1 b2 b3 b5 b6) hK (.c _ _ hr)
      · obtain ⟨m, e, h3, h⟩ := ayE_ok h
        obtain ⟨j, h4, h7, ⟨rows, h5, h8⟩, h⟩ := onO_iff.1 h
        obtain ⟨l, h', b1, b2, b3, hK, b5, b6⟩ := bnd_ok hE h
        clear h
        generalize a.eval x = u at hp ⊢
        cases hp with
        | pe _ _ _ A hn ha =>
          have q1 : h'.toNat - l.toNat ≤ m - l.toNat := by omega
          have q2 : m - l.toNat ≤ maxLen := Nat.le_trans (Nat.sub_le _ _) h7
          obtain ⟨g, sz, hU, hb, cs, e', hw, ⟨hz, hrows⟩, hcl, _⟩ := hI.get h5
          have hA := ha g sz hb
          subst hA
          have hfl : (Ob.ar j.size rows).cells.length = m * j.size := by show rows.flatten.length = _; rw [flat_len hrows, h8]
          refine .pure hI (arr_run (und_ay TP h2 h3) (run_size TP h4) _ b1 b2 b3 b5 b6) hK (.c _ _ (.arr _ _ _ _ _ hn q1 q2 (fun g' sz' hb' => ?_)))
          rw [hb] at hb'
          cases hb'
          refine ⟨cs, e', hw, ?_, ?_⟩
          · by_cases hml : m = l.toNat
            · left; omega
            · right
              rw [if_neg hml, adr_add, hz]
              simp
          · rw [show l.toNat + (m - l.toNat) = m by omega]
            rw [hfl, hz] at hcl
            exact hcl
      · exact h.elim
  case convert s d x =>
    obtain ⟨p, h1, h⟩ := ev2_ok h
    refine .v1 (s := fun ρ => convert s d (ρ x)) (fun ρ => by simp only [execOp]) fun G w a hI hE => ?_
    have hp := (ev_ok hE h1).cel
    dsimp only
    generalize a.eval x = u at hp ⊢
    unfold vcvt at h
    split at h
    · obtain ⟨h0, h⟩ := h
      obtain ⟨si, hs⟩ := Option.isSome_iff_exists.1 h0
      obtain ⟨i, h2, h⟩ := onO_iff.1 h
      obtain ⟨sd, hs1, _⟩ := TP.u s si hs
      split at h
      · rename_i hd
        cases hp
        have hu := und_i TP h2 hd
        exact runB hI (by simp [convert, run_underlying hs1, run_underlying hu, Conv.intToInt]) rfl h
      · exact h.elim
    · obtain ⟨q, hq, h⟩ := onO_iff.1 h
      split at h
      · rename_i hqd
        have hqd' : q.d = .s := by cases hdd : q.d <;> rw [hdd] at hqd <;> first | rfl | cases hqd
        obtain ⟨i, h2, h⟩ := onO_iff.1 h
        split at h
        · rename_i hd
          cases hp
          have hu := und_s TP h2 hd
          exact runB hI (by simp [convert, run_underlying (und_s TP hq hqd'), run_underlying hu]) rfl h
        · rename_i e hd
          obtain ⟨j, h3, h⟩ := onO_iff.1 h
          split at h
          · rename_i h8
            cases hp
            exact Runs.s2b TP hI hq hqd' h2 hd h3 h8 h.1 h.2
          · exact h.elim
        · exact h.elim
      · exact h.elim
    · obtain ⟨i, hi, h⟩ := onO_iff.1 h
      obtain ⟨e, hd, h⟩ := slE_ok h
      obtain ⟨j, hj, h⟩ := onO_iff.1 h
      obtain ⟨q, hq, h⟩ := onO_iff.1 h
      split at h
      · rename_i hc
        rw [Bool.and_eq_true] at hc
        have hqd' : q.d = .s := by have := hc.2; cases hdd : q.d <;> rw [hdd] at this <;> first | rfl | cases this
        exact Runs.b2s TP hI hi hd hj hc.1 hq hqd' hp (s := ⟨#[]⟩) rfl (fun s h => by cases h) h
      · exact h.elim
    · obtain ⟨i, hi, h⟩ := onO_iff.1 h
      obtain ⟨e, hd, h⟩ := slE_ok h
      obtain ⟨j, hj, h⟩ := onO_iff.1 h
      obtain ⟨q, hq, h⟩ := onO_iff.1 h
      split at h
      · rename_i hc
        rw [Bool.and_eq_true] at hc
        have hqd' : q.d = .s := by have := hc.2; cases hdd : q.d <;> rw [hdd] at this <;> first | rfl | cases this
        obtain ⟨hz, t, hxs, h⟩ := h
        exact Runs.b2s TP hI hi hd hj hc.1 hq hqd' hp (s := t) (by unfold srcp; dsimp only; rw [if_pos hz, hxs]) (fun s h => by cases h) h
      · exact h.elim
    · obtain ⟨i, hi, h⟩ := onO_iff.1 h
      obtain ⟨e, hd, h⟩ := slE_ok h
      obtain ⟨j, hj, h⟩ := onO_iff.1 h
      split at h
      · rename_i h8
        obtain ⟨q, hq, h⟩ := onO_iff.1 h
        split at h
        · rename_i hqd
          obtain ⟨rows, t, ho, hle, ht, h⟩ := h
          exact Runs.b2s TP hI hi hd hj h8 hq hqd hp (s := t) (by unfold srcp; dsimp only; rw [ho]; dsimp only; rw [if_pos ⟨rfl, hle⟩, ht]) (fun s h => by cases h) h
        · obtain ⟨rfl, rfl, h0, rows, ho, hle, h⟩ := h
          exact Runs.b2b TP hI hi hd hj h8 hp ho hle h0 h
        · exact h.elim
      · exact h.elim
    · exact h.elim
  case call c =>
    obtain ⟨callee, args, ats⟩ := c
    cases callee with
    | value f =>
      obtain ⟨c, h1, h⟩ := ev2_ok h
      split at h
      · rename_i fid caps
        obtain ⟨as, h2, hfn, h⟩ := onO_iff.1 h
        obtain ⟨fn, code, hf1, hf2, hf3⟩ := hfn
        intro ρ G w a hI hE Q
        have hc := (ev_ok hE h1).cel
        have has := evs_ok hE h2
        generalize hv : a.eval f = u at hc
        cases hc with
        | fn _ _ vs hl cv hcv hcr =>
          have hrun : (execOp a.eval ⟨dst, .call { callee := .value f, args := args, argTypes := ats }, ty, pos, after, guard⟩).run P w = .ok (.enter fid (args.map a.eval ++ vs)) w := by
            have hf4 : ¬ fn.name = "runtime.NumGoroutine" := by simpa using hf3
            simp [execOp, resolve, hv, Deferred.ofValue, invoke, callFunc, hf1, hf2, hf4]
          refine wpE hrun ?_
          refine (h G w (args.map a.eval ++ vs) hI ⟨?_, ?_⟩).mono ?_
          · have := has.1; simp at this; simp [this, hl]
          · intro j r v hj hvv
            have h3 := has.1
            have h3' : (args.map a.eval).size = as.length := by simpa using h3
            by_cases hlt : j < as.length
            · rw [List.getElem?_append_left hlt] at hj
              rw [Array.getElem?_append_left (by omega)] at hvv
              exact has.2 j r v hj (by simpa using hvv)
            · rw [List.getElem?_append_right (by omega), List.getElem?_map] at hj
              rw [Array.getElem?_append_right (by omega), h3'] at hvv
              cases hcj : caps[j - as.length]? with
              | none => rw [hcj] at hj; cases hj
              | some c =>
                rw [hcj] at hj
                cases hj
                have := hcv _ c hcj
                rw [this] at hvv
                cases hvv
                exact .c _ _ (hcr _ c hcj)
          · rintro e w' ⟨G', r, st', v, hK, rfl, hx, hI', hr⟩
            exact ⟨_, rfl, G', _, st', hK, hx, hI', (hE.ext hx).put hr _⟩
      · rename_i F
        obtain ⟨g, x, rfl, h⟩ := h
        obtain ⟨as, h2, hfn, h⟩ := onO_iff.1 h
        obtain ⟨fn, code, hf1, hf2, hf3⟩ := hfn
        intro ρ G w a hI hE Q
        have hc := (ev_ok hE h1).cel
        have has := evs_ok hE h2
        generalize hv : a.eval f = u at hc
        cases hc with
        | ab _ _ hb =>
          obtain ⟨y, rfl, hy⟩ := hb
          have hrun : (execOp a.eval ⟨dst, .call { callee := .value f, args := args, argTypes := ats }, ty, pos, after, guard⟩).run P w = .ok (.enter g (#[y] ++ args.map a.eval)) w := by
            have hf4 : ¬ fn.name = "runtime.NumGoroutine" := by simpa using hf3
            simp [execOp, resolve, hv, Deferred.ofValue, invoke, callFunc, hf1, hf2, hf4]
          refine wpE hrun ?_
          have h3 : (args.map a.eval).size = as.length := by simpa using has.1
          refine (h G w (#[y] ++ args.map a.eval) hI ⟨?_, ?_⟩).mono ?_
          · simp only [Array.size_append, List.size_toArray, List.length_cons, List.length_nil, h3]; omega
          · intro j r v hj hvv
            match j, hj with
            | 0, hj =>
              cases hj
              rw [Array.getElem?_append_left (by simp)] at hvv
              simp at hvv
              subst hvv
              exact .c _ _ hy
            | j + 1, hj =>
              rw [Array.getElem?_append_right (by simp)] at hvv
              simp only [List.getElem?_cons_succ] at hj
              exact has.2 j r v hj (by simpa using hvv)
          · rintro e w' ⟨G', r, st', v, hK, rfl, hx, hI', hr⟩
            exact ⟨_, rfl, G', _, st', hK, hx, hI', (hE.ext hx).put hr _⟩
      · exact h.elim
    | builtin b =>
      have h : vblt T env st b ats.toList args.toList (fun r st' => K (put N env dst r) st') := h
      refine .of fun G w a hI hE => ?_
      obtain ⟨s, hs, v, w', G', r, st', h1, h2, h3, h4, h5⟩ := blt_ok TP (ty := ty) (cs := args.map fun | .const _ => true | _ => false) h hI hE
      refine ⟨v, w', G', r, st', ?_, h2, h3, h4, h5⟩
      have he : execOp a.eval ⟨dst, .call { callee := .builtin b, args := args, argTypes := ats }, ty, pos, after, guard⟩ = builtin b ats ty (args.map fun | .const _ => true | _ => false) (args.map a.eval) := rfl
      rw [he, hs]
      simp [h1]
    | invoke _ _ => exact h.elim
  all_goals exact h.elim
end Go.Proofs.YtnafgpgbedcdnaaDoor.D.Pm
namespace Go.Proofs.YtnafgpgbedcdnaaDoor.D.Pm
set_option linter.unusedVariables false
set_option linter.unusedSimpArgs false
open Go
/-! ### code -/
section
variable (P : Program) (T : TT) (N : Nat) {ρ : Option Nat}
structure Pw (c : Code) (Q : Exit → Env → Sto → Prop) (env : Env) (st : Sto) : Prop where
  mk ::
  out : ∀ G w a, Inv G w st → RE N G w env a → c.wpIn (fen ρ) 7 P (fun e a' w' => ∃ G' env' st', Q e env' st' ∧ Ext G w G' w' ∧ Inv G' w' st' ∧ RE N G' w' env' a') a w
/-- the slots as they may be seen -/
def EV (D : Nat → Bool) (st : Sto) (env : Env) : Env → Prop
  | [] => True
  | (t, r') :: rest => (∃ r, look env t = some r ∧ FV D st r r') ∧ EV D st env rest
/-- a box, or a variable with its first value, that no one writes to any more -/
def vopF (S : List Nat) (o : Oper) (env : Env) (st : Sto) (K : AV → Sto → Prop) : Prop :=
  match o.op with
  | .box _ x => match o.dst with
    | some d => match S.elem (1000000 + d) with
      | true => vop P T env st o.op K
      | false => onO (ev env x) fun r => ntup r (K (.c (.ep (avc r))) st)
    | none => vop P T env st o.op K
  | .buildSlice t n ps => match o.dst with
    | some d => match S.elem (1000000 + d) with
      | true => vop P T env st o.op K
      | false => onO (parts env ps.toList) fun ps => onO (T t) fun i => slE i.d fun e => onO (T e) fun z => if n * z.size ≤ 16777216 ∧ n ≤ maxLen then
          onO (fillR z.size (List.replicate n (z.z.map .v)) ps) fun rows => K (.c (.sl z.size rows)) st else False
    | none => vop P T env st o.op K
  | op => vop P T env st op K
def pair (S : List Nat) (o o2 : Oper) : Option (Nat × TypeId × Operand) :=
  match o.dst, o.op, o.guard, o2.dst, o2.op, o2.guard with
  | some d, .alloc t, none, none, .store t' (.tmp d') x, none => match decide (d = d') && decide (t = t') && decide (d < N) && !(match x with | .tmp y => decide (y = d) | _ => false) && !S.elem (1000000 + d) with
    | true => some (d, t, x)
    | false => none
  | _, _, _, _, _, _ => none
def vgo (S : List Nat) (ops : Array Oper) (o : Oper) (env : Env) (st : Sto) (K : Env → Sto → Prop) : Prop :=
  match o.guard with
  | none => vopF P T S o env st fun r st => K (put N env o.dst r) st
  | some (j, want) => onO ((ops[j]?).bind (·.dst)) fun d => onO (look env d) fun r => onG r (K (put N env o.dst (.t [])) st) fun b =>
      if b = want then vopF P T S o env st fun r st => K (put N env o.dst r) st
      else K (put N env o.dst (.t [])) st
def vops (S : List Nat) (ops : Array Oper) : List Oper → Env → Sto → (Env → Sto → Prop) → Prop
  | [], env, st, Q => Q env st
  | [o], env, st, Q => vgo P T N S ops o env st Q
  | o :: o2 :: rest, env, st, Q => match pair N S o o2 with
    | some (d, t, x) => onO (ev env x) fun r => onO (T t) fun i => ntup r (if (avc r).length = i.size then vops S ops rest (put N env (some d) (.c (.ep (avc r)))) st Q else False)
    | none => vgo P T N S ops o env st fun env st => vops S ops (o2 :: rest) env st Q
/-- the region with which a code begins -/
def first : Code → Option Nat
  | .region id _ _ => some id
  | .seq a _ => first a
  | .block _ b => first b
  | .loop b => first b
  | _ => none
def inS (S : List Nat) : Option Nat → Bool
  | some i => S.elem i
  | none => false
/-- code is gone through up to loops, draws and the regions of S -/
def vcode (S : List Nat) : Code → (Exit → Env → Sto → Prop) → Env → Sto → Prop
  | .skip, Q, env, st => Q .normal env st
  | .region _ ops false, Q, env, st => vops P T N S ops ops.toList env st (Q .normal)
  | .seq a b, Q, env, st => vcode S a (fun e env st => match e with | .normal => (match inS S (first b) with | true => Pw (ρ := ρ) P N b Q env st | false => vcode S b Q env st) | e => Q e env st) env st
  | .cond c x y, Q, env, st => onO (ev env c) fun r => onT r fun b => match b with
    | true => (match inS S (first x) with | true => Pw (ρ := ρ) P N x Q env st | false => vcode S x Q env st)
    | false => (match inS S (first y) with | true => Pw (ρ := ρ) P N y Q env st | false => vcode S y Q env st)
  | .block id b, Q, env, st => vcode S b (fun e env st => match e with | .exit i => if i = id then Q .normal env st else Q (.exit i) env st | e => Q e env st) env st
  | .exit id, Q, env, st => Q (.exit id) env st
  | .ret, Q, env, st => Q .ret env st
  | .label _, Q, env, st => Q .normal env st
  | .goto l, Q, env, st => Q (.goto l) env st
  | .scope x, Q, env, st => match ρ with
    | none => vcode S x (fun e env st => match e with | .goto l => onO (findLabel x l) fun rest => Pw (ρ := ρ) P N rest (fun e env st => match e with | .goto _ => False | e => Q e env st) env st | e => Q e env st) env st
    | some _ => False
  | c, Q, env, st => Pw (ρ := ρ) P N c Q env st
end
variable {P : Program} {T : TT} {N : Nat} {ρ : Option Nat}
theorem Pw.mono {c : Code} {Q Q' : Exit → Env → Sto → Prop} {env : Env} {st : Sto} (h : Pw (ρ := ρ) P N c Q env st) (hq : ∀ e env st, Q e env st → Q' e env st) : Pw (ρ := ρ) P N c Q' env st :=
  ⟨fun G w a hI hE => wpIn_mono (h.out G w a hI hE) fun e a' w' ⟨G', env', st', h1, h2⟩ => ⟨G', env', st', hq _ _ _ h1, h2⟩⟩
theorem EV.ok {G : Gh} {w : World} {st : Sto} (hI : Inv G w st) {D : Nat → Bool} {env : Env} {a : Act} (hE : RE N G w env a) : ∀ {env' : Env}, EV D st env env' → RE N (G.frz D st w) w env' a
  | [], _ => ⟨hE.size, hE.defers.exts (Ext.frz G D st w).toExtS rfl, fun t r h => by cases h⟩
  | (t, r') :: rest, ⟨⟨r, h1, h2⟩, h3⟩ => by
    have ih := EV.ok hI hE h3
    refine ⟨hE.size, hE.defers.exts (Ext.frz G D st w).toExtS rfl, fun t' r'' hl => ?_⟩
    unfold look at hl
    split at hl
    · rename_i ht
      subst ht
      cases hl
      obtain ⟨v, hv, hr⟩ := hE.at_ _ _ h1
      exact ⟨v, hv, h2.ok hI hr⟩
    · exact ih.at_ t' r'' hl
/-- slots and objects are seen otherwise -/
theorem Pw.view (D : Nat → Bool) (env' : Env) (st' : Sto) {c : Code} {Q : Exit → Env → Sto → Prop} {env : Env} {st : Sto} (he : EV D st env env') (hs : ∀ id o, st' id = some o → st id = some o ∧ D id = false) (h : Pw (ρ := ρ) P N c Q env' st') : Pw (ρ := ρ) P N c Q env st := by
  refine ⟨fun G w a hI hE => ?_⟩
  refine wpIn_mono (h.out _ w a (hI.frz D hs) (EV.ok hI hE he)) fun e a' w' ⟨G', env'', st'', h1, h2, h3⟩ => ⟨G', env'', st'', h1, (Ext.frz G D st w).trans h2, h3⟩
theorem wpOpIn_q {ρ : Option Nat} {P : Program} {ops : Array Oper} {Q Q' : Exit → Act → World → Prop} (hq : ∀ e a w, Q e a w → Q' e a w) {i : Nat} {K K' : Act → World → Prop} (hk : ∀ a w, K a w → K' a w) {a : Act} {w : World} (h : wpOpIn (fen ρ) 7 P ops Q i K a w) : wpOpIn (fen ρ) 7 P ops Q' i K' a w := by
  unfold wpOpIn at *
  split
  · exact hk _ _ (by simpa [*] using h)
  · rename_i o ho
    simp only [ho] at h
    split
    · rename_i hw
      simp only [hw, if_true] at h
      refine ⟨h.1, ?_⟩
      replace h := h.2
      generalize (o.semAt (fen ρ).round a.eval).run P w = r at *
      cases r with
      | ok n w' =>
        cases n <;> simp only [Oper.uponIn] at h ⊢ <;> first
          | exact hk _ _ h
          | exact ⟨h.1, CallsIn.mono h.2 (fun e w'' he => by cases e <;> first | exact hk _ _ he | exact hq _ _ _ he | (obtain ⟨a1, w1, h3⟩ := he; exact ⟨a1, w1, hq _ _ _ h3⟩))⟩
          | exact ⟨h.1, RowsIn.mono h.2 (fun _ _ he => hk _ _ he)⟩
          | exact ⟨h.1, RoundIn.mono h.2 (fun e w'' he => by cases e <;> first | exact hk _ _ he | exact hq _ _ _ he | (obtain ⟨a1, w1, h3⟩ := he; exact ⟨a1, w1, hq _ _ _ h3⟩))⟩
      | halt x w' => cases x <;> simp only [Oper.uponIn] at h ⊢ <;> first | exact h | exact hq _ _ _ h
    · rename_i hw; simp only [hw] at h; exact ⟨fun _ _ => trivial, hk _ _ h.2⟩
theorem wpOpsIn_q {ρ : Option Nat} {P : Program} {ops : Array Oper} {Q Q' : Exit → Act → World → Prop} (hq : ∀ e a w, Q e a w → Q' e a w) : ∀ (l : List Nat) (a : Act) (w : World), wpOpsIn (fen ρ) 7 P ops Q l a w → wpOpsIn (fen ρ) 7 P ops Q' l a w
  | [], a, w, h => hq _ _ _ h
  | i :: l, a, w, h => by
    rw [wpOpsIn_cons] at h ⊢
    exact wpOpIn_q hq (wpOpsIn_q hq l) h
theorem RE.frz1 {G : Gh} {w : World} {st : Sto} {env : Env} {a : Act} (hI : Inv G w st) (hE : RE N G w env a) (D : Nat → Bool) {d : Nat} {r r' : AV} (hl : look env d = some r) (hf : FV D st r r') : RE N (G.frz D st w) w (Pm.put N env (some d) r') a := by
  refine ⟨hE.size, hE.defers.exts (Ext.frz G D st w).toExtS rfl, fun t x hx => ?_⟩
  obtain ⟨v, h1, h2⟩ := hE.at_ d r hl
  unfold Pm.put at hx
  dsimp only at hx
  split at hx
  · unfold look at hx
    split at hx
    · rename_i ht
      subst ht
      cases hx
      exact ⟨v, h1, hf.ok hI h2⟩
    · obtain ⟨u, k1, k2⟩ := hE.at_ t x hx
      exact ⟨u, k1, k2.ext (Ext.frz G D st w)⟩
  · obtain ⟨u, k1, k2⟩ := hE.at_ t x hx
    exact ⟨u, k1, k2.ext (Ext.frz G D st w)⟩
theorem OpOk.boxF {env : Env} {st : Sto} {o : Oper} {t : TypeId} {x : Operand} (ho : o.op = .box t x) {K : Env → Sto → Prop} {r : AV} (h1 : ev env x = some r) (h2 : ∀ l, r ≠ .t l) (h : K (put N env o.dst (.c (.ep (avc r)))) st) : OpOk P N o env st K := by
  refine .v1 (s := fun ρ => Instr.box t (ρ x)) (fun ρ => by unfold execOp; rw [ho]) fun G w a hI hE => ?_
  obtain ⟨v, w', G', r', st', k1, ⟨id, hn, rfl, rfl⟩, k3, k4, k5⟩ := Runs.box (P := P) (t := t) hI (ev_ok hE h1) h2 (K := fun r' st' => ∃ id, st id = none ∧ r' = .c (.ptr id 0) ∧ st' = upd st id (.bx (avc r))) (fun id hid => ⟨id, hid, rfl, rfl⟩)
  refine ⟨v, w', _, _, st, k1, h, k3.trans (Ext.frz G' (only id) _ w'), k4.frz (only id) (only_old hn _), ?_⟩
  refine (FV.c _ _ (Fz.ptr id 0 (avc r) (by simp [only]) (by simp [upd]))).ok k4 k5
theorem fillR_len {sz : Nat} : ∀ {ps : List (Nat × AV)} {rows out : List (List AC)}, fillR sz rows ps = some out → out.length = rows.length
  | [], rows, out, h => by cases h; rfl
  | (i, r) :: rest, rows, out, h => by
    unfold fillR at h
    split at h
    · cases h
    · split at h
      · rw [fillR_len h, List.length_set]
      · cases h
theorem OpOk.sliceF (TP : TOk P T) {env : Env} {st : Sto} {o : Oper} {t : TypeId} {n : Nat} {ps : Array (Nat × Operand)} (ho : o.op = .buildSlice t n ps) {K : Env → Sto → Prop} {rs : List (Nat × AV)} (h1 : parts env ps.toList = some rs) {i : TI} (h2 : T t = some i) {e : TypeId} (h3 : i.d = .sl e) {z : TI} (h4 : T e = some z)
    (h5 : n * z.size ≤ 16777216 ∧ n ≤ maxLen) {rows : List (List AC)} (h6 : fillR z.size (List.replicate n (z.z.map .v)) rs = some rows) (h : K (put N env o.dst (.c (.sl z.size rows))) st) : OpOk P N o env st K := by
  refine .v1 (s := fun ρ => Instr.buildSlice t n (ps.map fun (i, x) => (i, ρ x))) (fun ρ => by unfold execOp; rw [ho]) fun G w a hI hE => ?_
  obtain ⟨v, w', G', r', st', k1, ⟨id, hn, rfl, rfl⟩, k3, k4, k5⟩ := Runs.buildSlice (vs := ps.map fun (i, x) => (i, a.eval x)) TP hI h2 h3 h4 h5.1 h5.2 (by simpa using parts_ok hE h1) h6 (K := fun r' st' => ∃ id, st id = none ∧ r' = .c (.arr id 0 n) ∧ st' = upd st id (.ar z.size rows)) (fun id hid => ⟨id, hid, rfl, rfl⟩)
  have hl : rows.length = n := by rw [fillR_len h6, List.length_replicate]
  obtain ⟨g, s2, cs, e2, _, _, _, ⟨hs2, hq⟩, _⟩ := k4.obj id (.ar z.size rows) (by simp [upd])
  refine ⟨v, w', _, _, st, k1, h, k3.trans (Ext.frz G' (only id) _ w'), k4.frz (only id) (only_old hn _), ?_⟩
  refine (FV.c _ _ (Fz.arr id 0 n z.size rows rows (by simp [only]) (by simp [upd]) (by omega) hl (fun i r hr => hq r (List.mem_of_getElem? hr)) (fun i r r' j c c' q1 q2 q3 q4 => ?_))).ok k4 k5
  rw [Nat.zero_add] at q1
  rw [q1] at q2
  cases q2
  rw [q3] at q4
  cases q4
  exact .refl _
theorem vopF_ok (TP : TOk P T) {S : List Nat} {o : Oper} {env : Env} {st : Sto} {K : Env → Sto → Prop} (h : vopF P T S o env st fun r st' => K (put N env o.dst r) st') : OpOk P N o env st K := by
  unfold vopF at h
  split at h
  · rename_i t x ho
    split at h
    · split at h
      · exact vop_ok TP h
      · obtain ⟨r, h1, h⟩ := onO_iff.1 h
        obtain ⟨h2, h⟩ := ntup_ok h
        exact .boxF ho h1 h2 h
    · exact vop_ok TP h
  · rename_i t n ps ho
    split at h
    · split at h
      · exact vop_ok TP h
      · obtain ⟨rs, h1, h⟩ := onO_iff.1 h
        obtain ⟨i, h2, h⟩ := onO_iff.1 h
        obtain ⟨e, h3, h⟩ := slE_ok h
        obtain ⟨z, h4, h⟩ := onO_iff.1 h
        split at h
        · rename_i h5
          obtain ⟨rows, h6, h⟩ := onO_iff.1 h
          exact .sliceF TP ho h1 h2 h3 h4 h5 h6 h
        · exact h.elim
    · exact vop_ok TP h
  · exact vop_ok TP h
theorem pair_ok {S : List Nat} {o o2 : Oper} {d t : Nat} {x : Operand} (h : pair N S o o2 = some (d, t, x)) : o.dst = some d ∧ o.op = .alloc t ∧ o.guard = none ∧ o2.dst = none ∧ o2.op = .store t (.tmp d) x ∧ o2.guard = none ∧ d < N ∧ x ≠ .tmp d := by
  unfold pair at h
  split at h
  · split at h
    · rename_i hc
      cases h
      simp only [Bool.and_eq_true, decide_eq_true_eq] at hc
      obtain ⟨⟨⟨⟨rfl, rfl⟩, hN⟩, hx⟩, _⟩ := hc
      refine ⟨by assumption, by assumption, by assumption, by assumption, by assumption, by assumption, hN, fun e => ?_⟩
      subst e
      simp at hx
    · cases h
  · cases h
theorem putAt_all : ∀ (cs vs : List AC), vs.length = cs.length → putAt cs 0 vs = vs := by
  intro cs vs h
  unfold putAt
  simp [h]
theorem List.twoStep {α : Type} {p : List α → Prop} (nil : p []) (one : ∀ a, p [a]) (two : ∀ a b l, p l → p (b :: l) → p (a :: b :: l)) (l : List α) : p l := by
  have : p l ∧ ∀ a, p (a :: l) := by
    induction l with
    | nil => exact ⟨nil, one⟩
    | cons b l ih => exact ⟨ih.2 b, fun a => two a b l ih.1 (ih.2 b)⟩
  exact this.1
theorem vops_ok (TP : TOk P T) {S : List Nat} {ops : Array Oper} {Q : Env → Sto → Prop} {G0 : Gh} {w0 : World} : ∀ (l : List Oper) (k : Nat), ops.toList.drop k = l → ∀ {env : Env} {st : Sto}, vops P T N S ops l env st Q → ∀ G w a, Ext G0 w0 G w → Inv G w st → RE N G w env a →
    wpOpsIn (fen ρ) 7 P ops (fun e a' w' => ∃ G' env' st', e = .normal ∧ Q env' st' ∧ Ext G0 w0 G' w' ∧ Inv G' w' st' ∧ RE N G' w' env' a') (List.range' k l.length) a w := by
  -- one operation
  have one : ∀ (o : Oper) (rest : List Oper) (k : Nat), ops.toList.drop k = o :: rest → ∀ {env : Env} {st : Sto} {K : Env → Sto → Prop}, vgo P T N S ops o env st K →
      (∀ {env : Env} {st : Sto}, K env st → ∀ G w a, Ext G0 w0 G w → Inv G w st → RE N G w env a → wpOpsIn (fen ρ) 7 P ops (fun e a' w' => ∃ G' env' st', e = .normal ∧ Q env' st' ∧ Ext G0 w0 G' w' ∧ Inv G' w' st' ∧ RE N G' w' env' a') (List.range' (k + 1) rest.length) a w) →
      ∀ G w a, Ext G0 w0 G w → Inv G w st → RE N G w env a → wpOpsIn (fen ρ) 7 P ops (fun e a' w' => ∃ G' env' st', e = .normal ∧ Q env' st' ∧ Ext G0 w0 G' w' ∧ Inv G' w' st' ∧ RE N G' w' env' a') (List.range' k (o :: rest).length) a w := by
    intro o rest k hk env st K h hK G w a hX hI hE
    have hko : ops[k]? = some o := by
      have := congrArg (·[0]?) hk
      simpa [List.getElem?_drop] using this
    rw [List.length_cons, List.range'_succ, wpOpsIn_cons]
    have fin : ∀ (K' : OpOk P N o env st K), ∀ R, Oper.wpIn (fen ρ) 7 P o a w (fun a' w' => wpOpsIn (fen ρ) 7 P ops (fun e a' w' => ∃ G' env' st', e = .normal ∧ Q env' st' ∧ Ext G0 w0 G' w' ∧ Inv G' w' st' ∧ RE N G' w' env' a') (List.range' (k + 1) rest.length) a' w') R := by
      intro K' R
      refine Oper.wpIn_mono ?_ (K' ρ G w a hI hE R)
      rintro a' w' ⟨G', env', st', h1, h2, h3, h4⟩
      exact hK h1 G' w' a' (hX.trans h2) h3 h4
    unfold wpOpIn
    rw [hko]
    dsimp only
    unfold vgo at h
    cases hg : o.guard with
    | none =>
      rw [hg] at h
      have hw : Region.wanted o (yielded ops a.tmps) = true := by simp [Region.wanted, hg]
      rw [if_pos hw]
      exact (fin (vopF_ok TP h) _)
    | some jw =>
      obtain ⟨j, want⟩ := jw
      rw [hg] at h
      dsimp only at h
      obtain ⟨d, h1, h⟩ := onO_iff.1 h
      obtain ⟨r, h2, h⟩ := onO_iff.1 h
      obtain ⟨v, h3, h4⟩ := hE.at_ _ _ h2
      rcases onG_ok h with ⟨⟨l, rfl⟩, hA⟩ | ⟨b, rfl, hh⟩
      · have hv : ∃ vs, v = .tuple vs := by cases h4; exact ⟨_, rfl⟩
        obtain ⟨vs, rfl⟩ := hv
        have hy : yielded ops a.tmps j = none := by simp [yielded, h1, h3]
        have hw : ¬ (Region.wanted o (yielded ops a.tmps) = true) := by simp [Region.wanted, hg, hy]
        rw [if_neg hw]
        exact ⟨fun _ _ => trivial, hK hA G w _ hX hI (hE.put (.t [] _ rfl (fun j x v h _ => by simp at h)) _)⟩
      clear h
      have hv : v = .bool b := by have := h4.cel; cases this; rfl
      subst hv
      have hy : yielded ops a.tmps j = some b := by simp [yielded, h1, h3]
      have hw : Region.wanted o (yielded ops a.tmps) = (b == want) := by simp [Region.wanted, hg, hy]
      rw [hw]
      by_cases hb : b = want
      · rw [if_pos hb] at hh
        rw [if_pos (by simp [hb])]
        exact (fin (vopF_ok TP hh) _)
      · rw [if_neg hb] at hh
        rw [if_neg (by simp [hb])]
        exact ⟨fun _ _ => trivial, hK hh G w _ hX hI (hE.put (.t [] _ rfl (fun j x v h _ => by simp at h)) _)⟩
  intro l
  induction l using List.twoStep with
  | nil => intro k hk env st h G w a hX hI hE; exact ⟨G, env, st, rfl, h, hX, hI, hE⟩
  | one o =>
    intro k hk env st h G w a hX hI hE
    exact one o [] k hk h (fun h1 G w a hX hI hE => ⟨G, _, _, rfl, h1, hX, hI, hE⟩) G w a hX hI hE
  | two o o2 rest ih1 ih2 =>
    intro k hk env st h G w a hX hI hE
    have hr1 : ops.toList.drop (k + 1) = o2 :: rest := by rw [← List.drop_drop, hk]; rfl
    have hr2 : ops.toList.drop (k + 1 + 1) = rest := by rw [← List.drop_drop, hr1]; rfl
    unfold vops at h
    cases hp : pair N S o o2 with
    | none =>
      rw [hp] at h
      exact one o (o2 :: rest) k hk h (fun h1 G w a hX hI hE => ih2 (k + 1) hr1 h1 G w a hX hI hE) G w a hX hI hE
    | some p =>
      obtain ⟨d, t, x⟩ := p
      rw [hp] at h
      obtain ⟨hd, ho, hg, hd2, ho2, hg2, hN, hne⟩ := pair_ok hp
      obtain ⟨r, h1, h⟩ := onO_iff.1 h
      obtain ⟨i, h2, h⟩ := onO_iff.1 h
      obtain ⟨h3, h⟩ := ntup_ok h
      split at h
      · rename_i h4
        have hko : ops[k]? = some o := by
          have := congrArg (·[0]?) hk
          simpa [List.getElem?_drop] using this
        have hko2 : ops[k + 1]? = some o2 := by
          have := congrArg (·[0]?) hr1
          simpa [List.getElem?_drop] using this
        rw [List.length_cons, List.range'_succ, wpOpsIn_cons]
        unfold wpOpIn
        rw [hko]
        dsimp only
        rw [if_pos (by simp [Region.wanted, hg])]
        have op1 : OpOk P N o env st fun env' st' => ∃ id, st id = none ∧ env' = put N env o.dst (.c (.ptr id 0)) ∧ st' = upd st id (.bx (i.z.map .v)) := .v1 (s := fun ρ => Instr.alloc t true (.tuple #[])) (fun ρ => by unfold execOp; rw [ho]) fun G w a hI hE => Runs.alloc TP hI h2 fun id hid => ⟨id, hid, rfl, rfl⟩
        refine Oper.wpIn_mono ?_ (op1 ρ G w a hI hE _)
        rintro a1 w1 ⟨G1, _, _, ⟨id, hid, rfl, rfl⟩, x1, i1, e1⟩
        rw [List.length_cons, List.range'_succ, wpOpsIn_cons]
        unfold wpOpIn
        rw [hko2]
        dsimp only
        rw [if_pos (by simp [Region.wanted, hg2])]
        have hz : (i.z.map AC.v).length = i.size := by rw [List.length_map]; exact (TP.f t i h2).choose_spec.2.2.2.2.1
        have hx : ev (put N env o.dst (.c (.ptr id 0))) x = some r := by
          cases x with
          | tmp y =>
            have : o.dst ≠ some y := fun e => hne (by rw [hd] at e; cases e; rfl)
            show look _ y = _
            unfold Pm.put
            rw [hd]
            dsimp only
            rw [if_pos hN]
            unfold look
            rw [if_neg (fun e => this (by rw [hd, e]))]
            exact h1
          | _ => exact h1
        have hlk : look (put N env o.dst (.c (.ptr id 0))) d = some (.c (.ptr id 0)) := by
          unfold Pm.put
          rw [hd]
          dsimp only
          rw [if_pos hN]
          simp [look]
        have op2 : OpOk P N o2 (put N env o.dst (.c (.ptr id 0))) (upd st id (.bx (i.z.map .v))) fun env' st' => env' = put N env o.dst (.c (.ptr id 0)) ∧ st' = upd (upd st id (.bx (i.z.map .v))) id (.bx (avc r)) := vop_ok TP (by
          rw [ho2, hd2]
          refine onO_iff.2 ⟨_, hlk, onO_iff.2 ⟨r, hx, onO_iff.2 ⟨i, h2, ?_⟩⟩⟩
          have : ∀ F : Prop, F → ntup r F := fun F hF => by cases r <;> first | exact hF | exact absurd rfl (h3 _)
          refine this _ ?_
          rw [if_pos h4]
          refine ⟨i.z.map .v, by simp [upd], by rw [hz, h4]; omega, rfl, ?_⟩
          rw [putAt_all _ _ (by rw [hz, h4])])
        refine Oper.wpIn_mono ?_ (op2 ρ G1 w1 a1 i1 e1 _)
        rintro a2 w2 ⟨G2, _, _, ⟨rfl, rfl⟩, x2, i2, e2⟩
        have he3 := RE.frz1 i2 e2 (only id) hlk (FV.c _ _ (Fz.ptr id 0 (avc r) (by simp [only]) (by simp [upd])))
        have hold : ∀ j o', st j = some o' → upd (upd st id (.bx (i.z.map .v))) id (.bx (avc r)) j = some o' ∧ only id j = false := fun j o' hj => by
          have : j ≠ id := fun e => by subst e; rw [hid] at hj; cases hj
          exact ⟨by simp [upd, this, hj], by simp [only, this]⟩
        refine ih1 (k + 1 + 1) hr2 h _ w2 a2 ((hX.trans x1).trans (x2.trans (Ext.frz G2 (only id) _ w2))) (i2.frz (only id) hold) ?_
        refine ⟨he3.size, he3.defers, fun t' r' hl => ?_⟩
        apply he3.at_ t' r'
        rw [← hl]
        show look (put N (put N env o.dst (.c (.ptr id 0))) (some d) (.c (.ep (avc r)))) t' = look (put N env (some d) (.c (.ep (avc r)))) t'
        rw [hd]
        unfold Pm.put
        dsimp only
        rw [if_pos hN, if_pos hN]
        by_cases ht : d = t'
        · subst ht
          simp [look, hN]
        · simp [look, ht, hN]
      · exact h.elim
theorem Pw.skip {Q : Exit → Env → Sto → Prop} {env : Env} {st : Sto} (h : Q .normal env st) : Pw (ρ := ρ) P N .skip Q env st := ⟨fun G w a hI hE => wpIn_skip ⟨G, env, st, h, Ext.refl _ _, hI, hE⟩⟩
theorem Pw.region (TP : TOk P T) (S : List Nat) {id : Nat} {ops : Array Oper} {Q : Exit → Env → Sto → Prop} {env : Env} {st : Sto} (h : vops P T N S ops ops.toList env st (Q .normal)) : Pw (ρ := ρ) P N (.region id ops false) Q env st := ⟨fun G w a hI hE => by
  refine wpIn_region (?_ : wpOpsIn (fen ρ) 7 P ops _ (List.range ops.size) a w)
  have := vops_ok (ρ := ρ) TP (G0 := G) (w0 := w) ops.toList 0 rfl h G w a (Ext.refl _ _) hI hE
  have e : List.range ops.size = List.range' 0 ops.toList.length := by rw [List.range_eq_range', Array.length_toList]
  rw [e]
  exact wpOpsIn_q (fun e a w ⟨G', env', st', he, h1⟩ => ⟨G', env', st', he ▸ h1⟩) _ _ _ this⟩
theorem Pw.seq {x y : Code} {Q : Exit → Env → Sto → Prop} {env : Env} {st : Sto} (h : Pw (ρ := ρ) P N x (fun e env st => match e with | .normal => Pw (ρ := ρ) P N y Q env st | e => Q e env st) env st) : Pw (ρ := ρ) P N (.seq x y) Q env st := ⟨fun G w a hI hE => by
  refine wpIn_seq (wpIn_mono (h.out G w a hI hE) fun e a' w' ⟨G', env', st', h1, h2, h3, h4⟩ => ?_)
  cases e with
  | normal => exact wpIn_mono (h1.out G' w' a' h3 h4) fun e a2 w2 ⟨G2, e2, s2, b1, b2, b3⟩ => ⟨G2, e2, s2, b1, h2.trans b2, b3⟩
  | _ => exact ⟨G', env', st', h1, h2, h3, h4⟩⟩
theorem Pw.block {id : Nat} {x : Code} {Q : Exit → Env → Sto → Prop} {env : Env} {st : Sto} (h : Pw (ρ := ρ) P N x (fun e env st => match e with | .exit i => if i = id then Q .normal env st else Q (.exit i) env st | e => Q e env st) env st) : Pw (ρ := ρ) P N (.block id x) Q env st := ⟨fun G w a hI hE => by
  refine wpIn_block (wpIn_mono (h.out G w a hI hE) fun e a' w' ⟨G', env', st', h1, h2⟩ => ?_)
  cases e with
  | exit i =>
    dsimp only at h1
    unfold Exit.inBlock
    by_cases hi : i = id
    · simp only [hi, if_true] at h1 ⊢; exact ⟨G', env', st', h1, h2⟩
    · simp only [hi, if_false] at h1 ⊢; exact ⟨G', env', st', h1, h2⟩
  | _ => exact ⟨G', env', st', h1, h2⟩⟩
theorem Pw.cond {c : Operand} {x y : Code} {Q : Exit → Env → Sto → Prop} {env : Env} {st : Sto} {b : Bool} (hc : ev env c = some (.c (.v (.bool b)))) (h : Pw (ρ := ρ) P N (if b then x else y) Q env st) : Pw (ρ := ρ) P N (.cond c x y) Q env st := ⟨fun G w a hI hE => by
  have hv := (ev_ok hE hc).cel
  have hv' : a.eval c = .bool b := by generalize a.eval c = u at hv; cases hv; rfl
  exact wpIn_cond hv' (h.out G w a hI hE)⟩
theorem wp_scope_once {c : Code} {P : Program} {a : Act} {w : World} {Q : Exit → Act → World → Prop}
    (h : c.wp P (fun e a w => match e with | .goto l => ∃ rest, findLabel c l = some rest ∧ rest.wp P (fun e a w => match e with | .goto _ => False | e => Q e a w) a w | e => Q e a w) a w) : (Code.scope c).wp P Q a w := by
  intro b k cs
  obtain ⟨e, a₁, w₁, hq, harr⟩ := h b (.inScope c :: k) cs
  cases e with
  | normal => exact ⟨.normal, a₁, w₁, hq, .head step_scope (Steps.trans harr (.one step_inScope))⟩
  | exit id => exact ⟨.exit id, a₁, w₁, hq, fun k' hk => .head step_scope (harr k' (by simp [exitTo, hk]))⟩
  | goto l' =>
    obtain ⟨rest, hf, hr⟩ := hq
    have hg : gotoIn l' (.inScope c :: k) = some (.code rest :: .inScope c :: k) := by simp [gotoIn, hf]
    obtain ⟨e, a₂, w₂, hq, harr₂⟩ := hr b (.inScope c :: k) cs
    cases e with
    | normal => exact ⟨.normal, a₂, w₂, hq, .of_steps (.head step_scope (harr _ hg)) (Steps.trans harr₂ (.one step_inScope))⟩
    | exit id => exact ⟨.exit id, a₂, w₂, hq, .of_steps (.head step_scope (harr _ hg)) (fun k' hk => harr₂ k' (by simp [exitTo, hk]))⟩
    | goto _ => exact hq.elim
    | ret => exact ⟨_, a₂, w₂, hq, .of_steps (.head step_scope (harr _ hg)) harr₂⟩
    | panic ch => exact ⟨_, a₂, w₂, hq, .of_steps (.head step_scope (harr _ hg)) harr₂⟩
    | outgrown => exact ⟨_, a₂, w₂, hq, .of_steps (.head step_scope (harr _ hg)) harr₂⟩
  | ret => exact ⟨_, a₁, w₁, hq, .of_steps (.one step_scope) harr⟩
  | panic ch => exact ⟨_, a₁, w₁, hq, .of_steps (.one step_scope) harr⟩
  | outgrown => exact ⟨_, a₁, w₁, hq, .of_steps (.one step_scope) harr⟩
theorem Pw.scope {x : Code} {Q : Exit → Env → Sto → Prop} {env : Env} {st : Sto} (hρ : ρ = none)
    (h : Pw (ρ := ρ) P N x (fun e env st => match e with | .goto l => onO (findLabel x l) fun rest => Pw (ρ := ρ) P N rest (fun e env st => match e with | .goto _ => False | e => Q e env st) env st | e => Q e env st) env st) : Pw (ρ := ρ) P N (.scope x) Q env st := by
  subst hρ
  refine ⟨fun G w a hI hE => ?_⟩
  refine wpIn_wide.2 (wp_scope_once (wpIn_wide.1 (wpIn_mono (h.out G w a hI hE) fun e a' w' ⟨G', env', st', h1, h2, h3, h4⟩ => ?_)))
  cases e with
  | goto l =>
    obtain ⟨rest, q1, q2⟩ := onO_iff.1 h1
    refine ⟨rest, q1, wpIn_wide.1 (wpIn_mono (q2.out G' w' a' h3 h4) fun e a2 w2 ⟨G2, env2, st2, k1, k2, k3, k4⟩ => ?_)⟩
    cases e <;> first | exact k1.elim | exact ⟨G2, env2, st2, k1, h2.trans k2, k3, k4⟩
  | _ => exact ⟨G', env', st', h1, h2, h3, h4⟩
theorem vcode_scope {S : List Nat} {x : Code} {Q : Exit → Env → Sto → Prop} {env : Env} {st : Sto} (h : vcode (ρ := ρ) P T N S (.scope x) Q env st) : ρ = none ∧ vcode (ρ := ρ) P T N S x (fun e env st => match e with | .goto l => onO (findLabel x l) fun rest => Pw (ρ := ρ) P N rest (fun e env st => match e with | .goto _ => False | e => Q e env st) env st | e => Q e env st) env st := by
  cases ρ with
  | none => exact ⟨rfl, h⟩
  | some _ => exact h.elim
theorem Pw.of (TP : TOk P T) (S : List Nat) : ∀ {c : Code} {Q : Exit → Env → Sto → Prop} {env : Env} {st : Sto}, vcode (ρ := ρ) P T N S c Q env st → Pw (ρ := ρ) P N c Q env st
  | .skip, Q, env, st, h => .skip h
  | .region id ops false, Q, env, st, h => .region TP S h
  | .region id ops true, Q, env, st, h => h
  | .seq x y, Q, env, st, h => .seq (Pw.mono (Pw.of TP S h) fun e env st h => by
    cases e with
    | normal =>
      dsimp only at h
      split at h
      · exact h
      · exact Pw.of TP S h
    | _ => exact h)
  | .cond c x y, Q, env, st, h => by
    obtain ⟨r, h1, hr⟩ := onO_iff.1 h
    obtain ⟨b, hb, hh⟩ := onT_iff.1 hr
    subst hb
    clear hr
    refine .cond h1 ?_
    cases b
    · dsimp only at hh
      split at hh
      · exact hh
      · exact Pw.of TP S hh
    · dsimp only at hh
      split at hh
      · exact hh
      · exact Pw.of TP S hh
  | .block id x, Q, env, st, h => .block (Pw.of TP S h)
  | .exit id, Q, env, st, h => ⟨fun G w a hI hE => wpIn_exit ⟨G, env, st, h, Ext.refl _ _, hI, hE⟩⟩
  | .ret, Q, env, st, h => ⟨fun G w a hI hE => wpIn_ret ⟨G, env, st, h, Ext.refl _ _, hI, hE⟩⟩
  | .label l, Q, env, st, h => ⟨fun G w a hI hE => wpIn_label ⟨G, env, st, h, Ext.refl _ _, hI, hE⟩⟩
  | .goto l, Q, env, st, h => ⟨fun G w a hI hE => wpIn_goto ⟨G, env, st, h, Ext.refl _ _, hI, hE⟩⟩
  | .loop x, Q, env, st, h => h
  | .rangeFunc .., Q, env, st, h => h
  | .scope x, Q, env, st, h => .scope (vcode_scope h).1 (Pw.of TP S (vcode_scope h).2)
  | .refuse w, Q, env, st, h => h
/-- a view of slots and objects -/
def Vw (env : Env) (st : Sto) (env' : Env) (st' : Sto) : Prop := ∃ D : Nat → Bool, EV D st env env' ∧ ∀ id o, st' id = some o → st id = some o ∧ D id = false
theorem Pw.vw {env' : Env} {st' : Sto} {c : Code} {Q : Exit → Env → Sto → Prop} {env : Env} {st : Sto} (hv : Vw env st env' st') (h : Pw (ρ := ρ) P N c Q env' st') : Pw (ρ := ρ) P N c Q env st := by
  obtain ⟨D, h1, h2⟩ := hv; exact .view D env' st' h1 h2 h
theorem Pw.loop {σ : Type} (e : σ → Env) (s : σ → Sto) (I : σ → Prop) (μ : σ → Nat) {c : Code} {Q : Exit → Env → Sto → Prop} {env : Env} {st : Sto} (h0 : ∃ x, Vw env st (e x) (s x) ∧ I x)
    (round : ∀ x, I x → Pw (ρ := ρ) P N c (fun ex env' st' => match ex with | .normal => ∃ y, Vw env' st' (e y) (s y) ∧ I y ∧ μ y < μ x | ex => Q ex env' st') (e x) (s x)) : Pw (ρ := ρ) P N (.loop c) Q env st := by
  obtain ⟨x, hv, hx⟩ := h0
  refine .vw hv ⟨fun G w a hI hE => ?_⟩
  have key : ∀ (n : Nat) (x : σ) (G1 : Gh) (w1 : World) (a1 : Act), μ x < n → I x → Ext G w G1 w1 → Inv G1 w1 (s x) → RE N G1 w1 (e x) a1 →
      Code.roundsIn (fen ρ) 7 P c (fun e a' w' => ∃ G' env' st', Q e env' st' ∧ Ext G w G' w' ∧ Inv G' w' st' ∧ RE N G' w' env' a') n a1 w1 := by
    intro n
    induction n with
    | zero => intro x G1 w1 a1 h; exact absurd h (Nat.not_lt_zero _)
    | succ n ih =>
      intro x G1 w1 a1 hm hx hX hI hE
      rw [roundsIn_succ]
      refine wpIn_mono ((round x hx).out G1 w1 a1 hI hE) fun ex a2 w2 ⟨G2, e2, s2, h1, h2, h3, h4⟩ => ?_
      cases ex with
      | normal =>
        obtain ⟨y, ⟨D, hv1, hv2⟩, hy, hlt⟩ := h1
        exact ih y _ w2 a2 (by omega) hy ((hX.trans h2).trans (Ext.frz G2 D s2 w2)) (h3.frz D hv2) (EV.ok h3 h4 hv1)
      | _ => exact ⟨G2, e2, s2, h1, hX.trans h2, h3, h4⟩
  exact wpIn_loop_rounds (μ x + 1) (key _ x G w a (Nat.lt_succ_self _) hx (Ext.refl _ _) hI hE)
end Go.Proofs.YtnafgpgbedcdnaaDoor.D.Pm
namespace Go.Proofs.YtnafgpgbedcdnaaDoor.D.Pm
set_option linter.unusedVariables false
set_option linter.unusedSimpArgs false
open Go
def params : Nat → List AV → Env
  | _, [] => []
  | i, r :: l => (i, r) :: params (i + 1) l
def vres (T : TT) (st : Sto) (env : Env) : List ResultVar → (List AV → Prop) → Prop
  | [], F => F []
  | .tmp t :: r, F => onO (look env t) fun v => vres T st env r fun l => F (v :: l)
  | .cell a t :: r, F => onO (look env a) fun p => onC p fun p => rdv st p fun cs => onO (ldc T t cs) fun v => vres T st env r fun l => F (v :: l)
/-- what a function hands back, as it may be seen -/
def Fin (K : AV → Sto → Prop) (r : AV) (st : Sto) : Prop := ∃ (D : Nat → Bool) (st' : Sto) (r' : AV), FV D st r r' ∧ (∀ id o, st' id = some o → st id = some o ∧ D id = false) ∧ K r' st'
def tupl : List AV → AV
  | [r] => r
  | l => .t l
def retQ (T : TT) (rs : List ResultVar) (K : AV → Sto → Prop) (e : Exit) (env : Env) (st : Sto) : Prop :=
  match e with
  | .normal => vres T st env rs fun l => Fin K (tupl l) st
  | .ret => vres T st env rs fun l => Fin K (tupl l) st
  | _ => False
variable {P : Program} {T : TT} {N : Nat}
theorem params_ok {G : Gh} {w : World} : ∀ (as : List AV) (i : Nat) (vs : Array Value), (∀ (j : Nat) r, as[j]? = some r → ∃ v, vs[i + j]? = some v ∧ RV G w r v) → ∀ t r, look (params i as) t = some r → ∃ v, vs[t]? = some v ∧ RV G w r v
  | [], i, vs, h, t, r, hl => by cases hl
  | a :: as, i, vs, h, t, r, hl => by
    unfold params look at hl
    split at hl
    · rename_i ht
      cases hl
      have := h 0 a rfl
      rwa [Nat.add_zero, ht] at this
    · exact params_ok as (i + 1) vs (fun j r hj => by have := h (j + 1) r hj; rwa [show i + (j + 1) = i + 1 + j by omega] at this) t r hl
def resVal (P : Program) (tmps : Array Value) : ResultVar → Sem Value
  | .tmp t => pure (tmps.getD t undef)
  | .cell a t => do loadVar t (← asAddr (tmps.getD a undef))
theorem vres_ok (TP : TOk P T) {G : Gh} {w : World} {st : Sto} {env : Env} {a : Act} (hI : Inv G w st) (hE : RE N G w env a) : ∀ {rs : List ResultVar} {F : List AV → Prop}, vres T st env rs F →
    ∃ l vs, F l ∧ (rs.mapM (resVal P a.tmps)).run P w = .ok vs w ∧ vs.length = l.length ∧ ∀ (j : Nat) r v, l[j]? = some r → vs[j]? = some v → RV G w r v
  | [], F, h => ⟨[], [], h, by simp, rfl, fun j r v h => by simp at h⟩
  | .tmp t :: rs, F, h => by
    obtain ⟨r, h1, h⟩ := onO_iff.1 h
    obtain ⟨l, vs, h2, h3, h4, h5⟩ := vres_ok TP hI hE h
    obtain ⟨v, h6, h7⟩ := hE.at_ _ _ h1
    refine ⟨r :: l, v :: vs, h2, ?_, by simp [h4], fun j r' v' a b => ?_⟩
    · simp [resVal, h3, Array.getD_eq_getD_getElem?, h6]
    · cases j with
      | zero => cases a; cases b; exact h7
      | succ j => exact h5 j r' v' a b
  | .cell p t :: rs, F, h => by
    obtain ⟨r, h1, hr⟩ := onO_iff.1 h
    obtain ⟨c, hcr, hc⟩ := onC_iff.1 hr
    subst hcr
    obtain ⟨cs, h2, ho⟩ := rdv_ok hc
    obtain ⟨r, h3, h⟩ := onO_iff.1 ho
    obtain ⟨l, vs, h4, h5, h6, h7⟩ := vres_ok TP hI hE h
    obtain ⟨v, h8, h9⟩ := hE.at_ _ _ h1
    obtain ⟨g, o, rfl, hl⟩ := rdp_ok hI h9.cel h2
    obtain ⟨u, h10, h11⟩ := load_ok TP hl h3
    refine ⟨r :: l, u :: vs, h4, ?_, by simp [h6], fun j r' v' a b => ?_⟩
    · simp [resVal, h5, Array.getD_eq_getD_getElem?, h8, asAddr, h10]
    · cases j with
      | zero => cases a; cases b; exact h11
      | succ j => exact h7 j r' v' a b
theorem results_eq {fn : Func} {tmps : Array Value} {w : World} {vs : List Value} (h : (fn.results.toList.mapM (resVal P tmps)).run P w = .ok vs w) : (results fn tmps).run P w = .ok (if h : vs.toArray.size = 1 then vs.toArray[0] else .tuple vs.toArray) w := by
  have e : results fn tmps = (do
      let vs ← fn.results.mapM (resVal P tmps)
      pure (if h : vs.size = 1 then vs[0] else .tuple vs)) := by
    unfold results resVal
    rfl
  rw [e]
  have e2 : fn.results.mapM (resVal P tmps) = (do let l ← fn.results.toList.mapM (resVal P tmps); pure l.toArray) := by
    rw [Array.mapM_eq_mapM_toList]
    simp
  rw [e2]
  simp [h]
/-- the marks are taken: what lies behind -/
def Took (ds : List Deferred) (w w' : World) : Prop :=
  w'.heap.size = w.heap.size ∧ (w'.os = w.os ∧ w'.tape = w.tape ∧ w'.output = w.output) ∧ SC w w' ∧ ∀ k, (∀ d ∈ ds, d.target ≠ .collected k) → w'.heap[k]? = w.heap[k]?
theorem leaves_marks {n : Nat} {fn : Func} {tmps : Array Value} {R : Ending → World → Prop} {G : Gh} : ∀ {ds : List Deferred} {w : World}, Marks G w ds → (∀ w', Took ds w w' → LeavesIn (fen none) n P fn tmps R [] .returning w') → LeavesInM (fen none) n P fn tmps R ds .returning w
  | [], w, _, h => h w ⟨rfl, ⟨rfl, rfl, rfl⟩, .refl _, fun _ _ => rfl⟩
  | d :: ds, w, ⟨⟨D, hd, hB, hX, hD, hne⟩, hm⟩, h => by
    subst hd
    have hlt : D < w.heap.size := (Array.getElem?_eq_some_iff.1 hD).1
    obtain ⟨w1, hw1⟩ : ∃ w1, w1 = { w with heap := w.heap.setIfInBounds D (.deferred none) } := ⟨_, rfl⟩
    have hoth : ∀ k, k ≠ D → w1.heap[k]? = w.heap[k]? := fun k hk => by rw [hw1]; simp [Ne.symm hk]
    have hsc : SC w w1 := fun k cs e f hk => by
      have : k ≠ D := fun e => by subst e; rw [hD] at hk; cases hk
      rw [hoth k this]; exact hk
    have hrun : (Instr.takeDeferred D).run P w = .ok [] w1 := by
      rw [hw1]; simp [Instr.takeDeferred, getObj, setObj, Sem.run, hD]
    have hm1 : Marks G w1 ds := by
      clear h
      have key : ∀ l : List Deferred, Marks G w l → (∀ d' ∈ l, d' ≠ ({ target := .collected D, args := #[] } : Deferred)) → Marks G w1 l := by
        intro l
        induction l with
        | nil =>
          intro h _
          have h : G.B ≤ w.heap.size := h
          show G.B ≤ w1.heap.size
          rw [hw1]; simpa using h
        | cons a l ih =>
          rintro ⟨⟨D', h1, h2, h3, h4, h5⟩, h6⟩ hn
          have : D' ≠ D := fun e => hn a (List.mem_cons_self ..) (by rw [h1, e])
          exact ⟨⟨D', h1, h2, h3, (hoth D' this).trans h4, h5⟩, ih h6 fun d' hd' => hn d' (List.mem_cons_of_mem _ hd')⟩
      exact key ds hm hne
    refine ⟨by simp, .inl ⟨D, w1, rfl, hrun, leaves_marks hm1 fun w' ⟨h1, h2, h3, h4⟩ => h w' ⟨h1.trans (by rw [hw1]; simp), ⟨h2.1.trans (by rw [hw1]), h2.2.1.trans (by rw [hw1]), h2.2.2.trans (by rw [hw1])⟩, hsc.trans h3, fun k hk => ?_⟩⟩⟩
    rw [h4 k (fun d hd => hk d (List.mem_cons_of_mem _ hd)), hoth k (fun e => by subst e; exact hk _ (List.mem_cons_self ..) rfl)]
theorem Marks.ge {G : Gh} {w : World} : ∀ {ds : List Deferred}, Marks G w ds → ∀ d ∈ ds, ∀ k, d.target = .collected k → G.B ≤ k
  | d :: ds, ⟨⟨D, hd, hB, _⟩, hm⟩, d', hd', k, hk => by
    rcases List.mem_cons.1 hd' with rfl | h
    · subst hd; cases hk; exact hB
    · exact Marks.ge hm d' h k hk
theorem Does.of (TP : TOk P T) {f : FuncId} {fn : Func} {c : Code} {as : List AV} {st : Sto} {K : AV → Sto → Prop} (hf : P.funcs[f]? = some fn) (hb : fn.body = some c) (hn : (fn.name == "runtime.NumGoroutine") = false) (hN : as.length ≤ fn.ntmps)
    (h : Pw (ρ := none) P fn.ntmps c (retQ T fn.results.toList K) (params 0 as) st) : Does P f as st K := by
  refine ⟨⟨fn, c, hf, hb, hn⟩, fun G w vs hI hv => callsIn_fen.1 (callsIn_of_wp_marks (F := fen none) (n := 7) hf hb trivial ?_)⟩
  have hE : RE fn.ntmps (G.base w.heap.size) w (params 0 as) { tmps := vs ++ Array.replicate (fn.ntmps - vs.size) undef, defers := [] } := by
    refine ⟨by simp [hv.1]; omega, Nat.le_refl _, params_ok as 0 _ fun j r hj => ?_⟩
    have hlt : j < vs.size := by rw [hv.1]; exact (List.getElem?_eq_some_iff.1 hj).1
    refine ⟨vs[j], ?_, (hv.2 j r _ hj (Array.getElem?_eq_getElem hlt)).exts (base_exts G w _)⟩
    rw [Nat.zero_add, Array.getElem?_append_left hlt, Array.getElem?_eq_getElem hlt]
  refine wpIn_mono (h.out _ w _ (hI.base _) hE) fun e a' w' ⟨G', env', st', h1, h2, h3, h4⟩ => ?_
  have fin : vres T st' env' fn.results.toList (fun l => Fin K (tupl l) st') → LeavesInM (fen none) 7 P fn a'.tmps (fun e w' => ∃ G' r st' v', K r st' ∧ e = .returned v' ∧ Ext G w G' w' ∧ Inv G' w' st' ∧ RV G' w' r v') a'.defers .returning w' := by
    intro hr
    refine leaves_marks h4.defers fun w2 ⟨k1, k2, k3, k4⟩ => ?_
    have i3 := h3.sc k3 (Nat.le_of_eq k1.symm)
    -- the slots behind the marks
    have e4 : RE fn.ntmps G' w2 env' { a' with defers := [] } := ⟨h4.size, by have := h4.defers.B; show G'.B ≤ _; rw [k1]; exact this, fun t r hl => let ⟨v, q1, q2⟩ := h4.at_ t r hl; ⟨v, q1, q2.sc k3⟩⟩
    obtain ⟨l, us, ⟨D, st2, r', hv1, hv2, hK⟩, h6, h7, h8⟩ := vres_ok TP i3 e4 hr
    have hkept : ∀ k, G.X k → w2.heap[k]? = w.heap[k]? := fun k hk => by
      have hlt := hI.X k hk
      rw [k4 k (fun d hd ht => by
        have := h4.defers.ge d hd k ht
        rw [h2.B] at this
        have : w.heap.size ≤ k := this
        omega)]
      exact h2.kept k hk
    have hx : Ext G w ((G'.frz D st' w2).base G.B) w2 := by
      have hf := (Ext.frz G' D st' w2)
      refine ⟨⟨by rw [k1]; exact h2.size, fun i hi => h2.U i hi, fun k hk => .inl (h2.X k hk), hkept, fun i hi => ?_, fun i g sz hi hb2 cs e hc => ?_⟩, fun i hi => h2.R i hi, fun i hi hu => h2.res i hi hu, ⟨k2.1.trans h2.out.1, k2.2.1.trans h2.out.2.1, k2.2.2.trans h2.out.2.2⟩, rfl⟩
      · rcases hf.live i (h2.U i hi) with q | q
        · exact .inl q
        · rcases h2.live i hi with q2 | q2
          · exact .inl (q.trans q2)
          · exact .inr (q.trans q2)
      · have hb3 : G'.b i = some (g, sz) := by
          rcases hf.live i (h2.U i hi) with q | q
          · have : (G'.frz D st' w2).b i = some (g, sz) := hb2
            rw [q] at this; cases this
          · rw [← q]; exact hb2
        obtain ⟨cs', q1, q2⟩ := h2.shape i g sz hi hb3 cs e hc
        exact ⟨cs', k3 _ _ _ _ q1, q2⟩
    refine ⟨_, results_eq h6, _, r', st2, _, hK, rfl, hx, (i3.frz D hv2).base _, ?_⟩

    refine (hv1.ok i3 ?_).exts (base_exts _ w2 _)
    match l, us, h7, h8 with
    | [r], [u], _, h8 => exact h8 0 r u rfl rfl
    | [], [], _, _ => exact .t [] #[] rfl (fun j x v h _ => by simp at h)
    | r :: r2 :: l, u :: u2 :: us, h7, h8 =>
      have : ¬ (u :: u2 :: us).toArray.size = 1 := by simp
      rw [dif_neg this]
      exact .t _ _ (by simpa using h7) (fun j x v a b => h8 j x v a (by simpa using b))
  cases e with
  | normal => exact fin h1
  | ret => exact fin h1
  | _ => exact h1.elim
/-- arguments are seen otherwise -/
theorem Does.args {f : FuncId} {as as' : List AV} {st : Sto} {K : AV → Sto → Prop} (hl : as'.length = as.length) (hv : ∀ (j : Nat) r r', as[j]? = some r → as'[j]? = some r' → FV (fun _ => false) st r r') (h : Does P f as' st K) : Does P f as st K := by
  refine ⟨h.fn, fun G w vs hI hr => ?_⟩
  have h2 := h.out (G.frz (fun _ => false) st w) w vs (hI.frz _ (fun id o ho => ⟨ho, rfl⟩)) ⟨by rw [hr.1, hl], fun j r' v h1 h2 => ?_⟩
  · exact h2.mono fun e w' ⟨G', r, s, v, k1, k2, k3, k4⟩ => ⟨G', r, s, v, k1, k2, (Ext.frz G _ st w).trans k3, k4⟩
  · have hlt : j < as.length := by rw [← hl]; exact (List.getElem?_eq_some_iff.1 h1).1
    exact (hv j _ r' (List.getElem?_eq_getElem hlt) h1).ok hI (hr.2 j _ v (List.getElem?_eq_getElem hlt) h2)
end Go.Proofs.YtnafgpgbedcdnaaDoor.D.Pm

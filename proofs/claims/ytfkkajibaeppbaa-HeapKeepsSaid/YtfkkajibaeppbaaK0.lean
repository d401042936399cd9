/- Words and contracts: a plain machine over the model, and what the functions that a law reaches come to, each for every input that its theorem names. -/
import Derived.Test.YtfkkajibaeppbaaProg
import Derived.Test.YtfkkajibaeppbaaV2
import Derived.Test.YtfkkajibaeppbaaV3
namespace Go.Proofs.Ytfkkajibaeppbaa.D
set_option linter.unusedVariables false
set_option linter.unusedSimpArgs false
open Go Go.Proofs.Ytfkkajibaeppbaa.D.Pm
def tt : TTree := (.node (.node (.node (.node (.node (.node .nil 1 ⟨.fn, 1, 8, [.nilFunc]⟩ .nil) 2 ⟨.i .i64, 1, 8, [.int .i64 0]⟩ .nil) 3 ⟨.i .i64, 1, 8, [.int .i64 0]⟩ (.node (.node .nil 4 ⟨.b, 1, 1, [.bool false]⟩ .nil) 5 ⟨.i .u8, 1, 1, [.int .u8 0]⟩ .nil)) 9 ⟨.s, 1, 16, [.string ⟨#[]⟩]⟩ (.node (.node (.node .nil 10 ⟨.s, 1, 16, [.string ⟨#[]⟩]⟩ .nil) 11 ⟨.s, 1, 16, [.string ⟨#[]⟩]⟩ .nil) 15 ⟨.pt 125, 1, 8, [.pointer none]⟩ (.node .nil 16 ⟨.pt 128, 1, 8, [.pointer none]⟩ .nil))) 17 ⟨.pt 137, 1, 8, [.pointer none]⟩ (.node (.node (.node (.node .nil 22 ⟨.sl 27, 1, 24, [.slice none 0 0]⟩ .nil) 23 ⟨.sl 5, 1, 24, [.slice none 0 0]⟩ .nil) 27 ⟨.st [(0, 3), (1, 3), (2, 23)], 3, 40, [.int .i64 0, .int .i64 0, .slice none 0 0]⟩ (.node (.node .nil 29 ⟨.i .i64, 1, 8, [.int .i64 0]⟩ .nil) 34 ⟨.sl 3, 1, 24, [.slice none 0 0]⟩ .nil)) 38 ⟨.sl 23, 1, 24, [.slice none 0 0]⟩ (.node (.node (.node .nil 39 ⟨.sl 4, 1, 24, [.slice none 0 0]⟩ .nil) 43 ⟨.sl 97, 1, 24, [.slice none 0 0]⟩ .nil) 51 ⟨.sl 55, 1, 24, [.slice none 0 0]⟩ (.node .nil 53 ⟨.st [(0, 3), (1, 3)], 2, 16, [.int .i64 0, .int .i64 0]⟩ .nil)))) 55 ⟨.st [(0, 3), (1, 4), (2, 53), (4, 23)], 5, 56, [.int .i64 0, .bool false, .int .i64 0, .int .i64 0, .slice none 0 0]⟩ (.node (.node (.node (.node (.node .nil 56 ⟨.pt 78, 1, 8, [.pointer none]⟩ .nil) 58 ⟨.pt 61, 1, 8, [.pointer none]⟩ .nil) 59 ⟨.sl 43, 1, 24, [.slice none 0 0]⟩ (.node (.node .nil 61 ⟨.st [(0, 59)], 1, 24, [.slice none 0 0]⟩ .nil) 64 ⟨.sl 68, 1, 24, [.slice none 0 0]⟩ .nil)) 68 ⟨.st [(0, 53), (2, 23)], 3, 40, [.int .i64 0, .int .i64 0, .slice none 0 0]⟩ (.node (.node (.node .nil 72 ⟨.sl 114, 1, 24, [.slice none 0 0]⟩ .nil) 78 ⟨.st [(0, 38), (1, 4)], 2, 32, [.slice none 0 0, .bool false]⟩ .nil) 79 ⟨.sl 56, 1, 24, [.slice none 0 0]⟩ (.node .nil 87 ⟨.st [(0, 3), (1, 3), (2, 3)], 3, 24, [.int .i64 0, .int .i64 0, .int .i64 0]⟩ .nil))) 92 ⟨.fn, 1, 8, [.nilFunc]⟩ (.node (.node (.node (.node .nil 93 ⟨.fn, 1, 8, [.nilFunc]⟩ .nil) 97 ⟨.st [(0, 4), (1, 23)], 2, 32, [.bool false, .slice none 0 0]⟩ .nil) 103 ⟨.st [(0, 3), (1, 3)], 2, 16, [.int .i64 0, .int .i64 0]⟩ (.node .nil 110 ⟨.fn, 1, 8, [.nilFunc]⟩ .nil)) 111 ⟨.fn, 1, 8, [.nilFunc]⟩ (.node (.node (.node .nil 114 ⟨.st [(0, 103), (2, 23)], 3, 40, [.int .i64 0, .int .i64 0, .slice none 0 0]⟩ .nil) 117 ⟨.fn, 1, 8, [.nilFunc]⟩ .nil) 121 ⟨.fn, 1, 8, [.nilFunc]⟩ (.node .nil 131 ⟨.i .u8, 1, 1, [.int .u8 0]⟩ .nil)))))
theorem TP : TOk Try.prog tt.get := tok (by kernel_rfl)
theorem mixed : Try.prog.follows .mixedOrders = true := by kernel_rfl
end Go.Proofs.Ytfkkajibaeppbaa.D
namespace Go.Proofs.Ytfkkajibaeppbaa.D
set_option linter.unusedVariables false
set_option linter.unusedSimpArgs false
open Go Go.Proofs.Ytfkkajibaeppbaa.D.Pm
/-! ### pages, plainly -/
abbrev By := List UInt8
def byl (l : By) : List (List AC) := l.map fun b => [AC.v (.int .u8 (b.toNat : Int))]
theorem byl_length (l : By) : (byl l).length = l.length := by simp [byl]
theorem byl_row {l : By} : ∀ r ∈ byl l, r.length = 1 := fun r hr => by
  obtain ⟨b, _, rfl⟩ := List.mem_map.1 hr
  rfl
theorem byl_take (l : By) (n : Nat) : (byl l).take n = byl (l.take n) := by simp [byl, List.map_take]
theorem byl_drop (l : By) (n : Nat) : (byl l).drop n = byl (l.drop n) := by simp [byl, List.map_drop]
theorem byl_app (l m : By) : byl l ++ byl m = byl (l ++ m) := by simp [byl]
theorem byl_at {l : By} {i : Nat} (h : i < l.length) : (byl l)[i]? = some [AC.v (.int .u8 (l[i].toNat : Int))] := by simp [byl, h]
theorem byl_set (l : By) (i : Nat) (b : UInt8) : (byl l).set i [AC.v (.int .u8 (b.toNat : Int))] = byl (l.set i b) := by simp [byl, List.map_set]
theorem byl_inj {l m : By} (h : byl l = byl m) : l = m := by
  unfold byl at h
  refine List.map_inj_right (fun a b hab => ?_) |>.1 h
  injection hab with h1 _
  injection h1 with h2
  injection h2 with _ h3
  have : a.toNat = b.toNat := by exact_mod_cast h3
  exact UInt8.toNat_inj.1 this
theorem byl_rep (n : Nat) : List.replicate n [AC.v (.int .u8 0)] = byl (List.replicate n 0) := by simp [byl]
abbrev Sl := Option By
def dz : Sl → Nat | none => 0 | some d => d.length
def sz : Sl → Nat | none => 0 | some d => d.length + 1
def dat : Sl → By | none => [] | some d => d
def hi (n : Nat) : UInt8 := UInt8.ofNat (n / 256)
def lo (n : Nat) : UInt8 := UInt8.ofNat (n % 256)
def w2 (n : Nat) : By := [hi n, lo n]
theorem hilo {n : Nat} (h : n < 65536) : 256 * (hi n).toNat + (lo n).toNat = n := by
  unfold hi lo
  rw [UInt8.toNat_ofNat', UInt8.toNat_ofNat']
  omega
def dsum : List Sl → Nat | [] => 0 | a :: r => dz a + dsum r
theorem dsum_app : ∀ (a b : List Sl), dsum (a ++ b) = dsum a + dsum b
  | [], b => by simp [dsum]
  | x :: a, b => by simp [dsum, dsum_app a b]; omega
def szs (l : List Sl) : By := l.flatMap fun s => w2 (sz s)
theorem szs_length : ∀ l, (szs l).length = 2 * l.length
  | [] => rfl
  | a :: l => by
    have := szs_length l
    simp [szs, w2] at this ⊢
    omega
theorem szs_app (a b : List Sl) : szs (a ++ b) = szs a ++ szs b := by simp [szs]
theorem szs_cons (a : Sl) (r : List Sl) : szs (a :: r) = w2 (sz a) ++ szs r := by simp [szs]
def back : List Sl → By | [] => [] | a :: r => back r ++ dat a
theorem back_app : ∀ (a b : List Sl), back (a ++ b) = back b ++ back a
  | [], b => by simp [back]
  | x :: a, b => by simp [back, back_app a b]
theorem back_length : ∀ l, (back l).length = dsum l
  | [] => rfl
  | none :: l => by simp [back, dsum, dz, dat, back_length l]
  | some d :: l => by simp [back, dsum, dz, dat, back_length l]; omega
def need (l : List Sl) : Nat := 2 + 2 * l.length + dsum l
def pg (l : List Sl) : By := w2 l.length ++ szs l ++ List.replicate (512 - need l) 0 ++ back l
structure Ok (l : List Sl) : Prop where
  fit : need l ≤ 512
  few : ∀ s ∈ l, dz s ≤ 255
  last : ∀ a, l.getLast? = some a → a ≠ none
theorem Ok.len {l : List Sl} (h : Ok l) : l.length ≤ 255 := by have := h.fit; unfold need at this; omega
theorem pg_length {l : List Sl} (h : need l ≤ 512) : (pg l).length = 512 := by
  unfold pg
  simp only [List.length_append, szs_length, List.length_replicate, back_length, w2, List.length_cons, List.length_nil]
  unfold need at *
  omega
/-- a number in two bytes -/
def num2 (p : By) (i : Nat) : Nat := 256 * (p.getD i 0).toNat + (p.getD (i + 1) 0).toNat
theorem num2_app {a b : By} {n : Nat} (h : n < 65536) : num2 (a ++ (w2 n ++ b)) a.length = n := by
  unfold num2
  have e1 : (a ++ (w2 n ++ b)).getD a.length 0 = hi n := by simp [w2, List.getD]
  have e2 : (a ++ (w2 n ++ b)).getD (a.length + 1) 0 = lo n := by
    rw [List.getD, List.getElem?_append_right (by omega)]
    simp [w2]
  rw [e1, e2, hilo h]
theorem pg_many0 {l : List Sl} (h : need l ≤ 512) : num2 (pg l) 0 = l.length := by
  have := num2_app (a := []) (n := l.length) (b := szs l ++ List.replicate (512 - need l) 0 ++ back l) (by unfold need at h; omega)
  simpa [pg, List.append_assoc] using this
theorem pg_many {l : List Sl} (h : Ok l) : num2 (pg l) 0 = l.length := pg_many0 h.fit
theorem split_at {l : List Sl} {k : Nat} (hk : k < l.length) : l = l.take k ++ l[k] :: l.drop (k + 1) := by simp
theorem sz_lt0 {l : List Sl} (h : ∀ s ∈ l, dz s ≤ 255) {k : Nat} (hk : k < l.length) : sz l[k] ≤ 256 := by
  have := h _ (List.getElem_mem hk)
  cases hs : l[k] with
  | none => simp [sz]
  | some d => rw [hs] at this; simp [sz, dz] at this ⊢; omega
theorem sz_lt {l : List Sl} (h : Ok l) {k : Nat} (hk : k < l.length) : sz l[k] ≤ 256 := sz_lt0 h.few hk
theorem pg_size0 {l : List Sl} (h : ∀ s ∈ l, dz s ≤ 255) {k : Nat} (hk : k < l.length) : num2 (pg l) (2 + 2 * k) = sz l[k] := by
  have e : szs l = szs (l.take k) ++ (w2 (sz l[k]) ++ szs (l.drop (k + 1))) := by
    conv => lhs; rw [split_at hk]
    rw [szs_app, szs_cons]
  have hl : (w2 l.length ++ szs (l.take k)).length = 2 + 2 * k := by
    rw [List.length_append, szs_length, List.length_take]; simp [w2]; omega
  have := num2_app (a := w2 l.length ++ szs (l.take k)) (n := sz l[k]) (b := szs (l.drop (k + 1)) ++ List.replicate (512 - need l) 0 ++ back l) (by have := sz_lt0 h hk; omega)
  rw [hl] at this
  rw [← this]
  congr 1
  unfold pg
  rw [e]
  simp [List.append_assoc]
theorem pg_size {l : List Sl} (h : Ok l) {k : Nat} (hk : k < l.length) : num2 (pg l) (2 + 2 * k) = sz l[k] := pg_size0 h.few hk
/-- a number is written -/
def wr (p : By) (i n : Nat) : By := (p.set i (hi n)).set (i + 1) (lo n)
theorem wr_app (a b : By) (x y : UInt8) (n : Nat) : wr (a ++ (x :: y :: b)) a.length n = a ++ (w2 n ++ b) := by
  unfold wr w2
  simp [List.set_append_right]
theorem wr_length (p : By) (i n : Nat) : (wr p i n).length = p.length := by simp [wr]
theorem Pm.Does.go {P : Program} {f : FuncId} {xs : List AV} {st st' : Sto} {v : AV} {K : AV → Sto → Prop} (h : Does P f xs st fun r s => r = v ∧ s = st') (k : K v st') : Does P f xs st K := h.mono fun r s ⟨e1, e2⟩ => by subst e1 e2; exact k
theorem rounds_of {P : Program} {N l : Nat} {pp : List Tmp} {assign body : Code} {Q : Exit → Env → Sto → Prop} {env : Env} {α : Type} (it : α → List AV) (I : List α → Sto → Prop) (h0 : ∀ st, I [] st → Q .normal env st)
    (h1 : ∀ x r st, I (x :: r) st → (it x).length = pp.length ∧ Pw (ρ := some l) P N assign (fun e env1 st1 => e = .normal ∧ Pw (ρ := some l) P N body (fun e _ st' => match e with
      | .normal => I r st'
      | .ret => Q .ret env st'
      | .exit i => Q (.exit i) env st'
      | .goto t => Q (.goto t) env st'
      | _ => False) env1 st1) (putps N pp (it x) env) st) : ∀ xs st, I xs st → rounds P N l pp assign body Q env (xs.map it) st
  | [], st, h => h0 st h
  | x :: r, st, h => ⟨(h1 x r st h).1, (h1 x r st h).2.mono fun e env1 st1 ⟨he, h2⟩ => ⟨he, h2.mono fun e env2 st2 h3 => by
      cases e with
      | normal => exact rounds_of it I h0 h1 r st2 h3
      | _ => exact h3⟩⟩
theorem Pm.Grow.box {st0 s : Sto} {b sz : Nat} {a : AC} {rows : List (List AC)} {cs cs' : List AC} (hg : Grow st0 sz s a rows) (hb : s b = some (.bx cs)) (h0 : st0 b = none) : Grow st0 sz (upd s b (.bx cs')) a rows := by
  refine ⟨hg.1.up2 h0, ?_⟩
  rcases hg.2 with h | ⟨id, h1, h2, h3⟩
  · exact .inl h
  · refine .inr ⟨id, h1, ?_, h3⟩
    have : id ≠ b := fun e => by subst e; rw [h2] at hb; cases hb
    rw [upd_ne _ this]; exact h2
theorem Pm.Grow.keptb {st0 s s' : Sto} {b sz : Nat} {a : AC} {rows : List (List AC)} {cs : List AC} (hg : Grow st0 sz s a rows) (hb : s b = some (.bx cs)) (hk : Kept a s s') : s' b = some (.bx cs) := by
  refine hk b _ hb fun n e => ?_
  rcases hg.2 with ⟨h, _⟩ | ⟨id, h1, h2, h3⟩
  · rw [h] at e; cases e
  · rw [h1] at e; cases e; rw [h2] at hb; cases hb
theorem Pm.Grow.nilb {st : Sto} {b sz : Nat} {o : Ob} (h : st b = none) : Grow st sz (upd st b o) (.v (.slice none 0 0)) [] := .nil (.up (.refl _) h)
theorem Le.upS {S : Sto} {id : Nat} {o : Ob} (h : S id = some o) : Le (upd S id o) S := fun i o' hi => by
  unfold upd at hi
  by_cases e : i = id
  · rw [if_pos e] at hi; cases hi; rw [e]; exact h
  · rw [if_neg e] at hi; exact hi
theorem Le.upU {S : Sto} {id : Nat} {o o' : Ob} : Le (upd S id o') (upd (upd S id o) id o') := fun i x hi => by
  unfold upd at hi ⊢
  by_cases e : i = id
  · rw [if_pos e] at hi ⊢; exact hi
  · rw [if_neg e] at hi ⊢; rw [if_neg e]; exact hi
end Go.Proofs.Ytfkkajibaeppbaa.D
namespace Go.Proofs.Ytfkkajibaeppbaa.D
set_option linter.unusedVariables false
set_option linter.unusedSimpArgs false
open Go Go.Proofs.Ytfkkajibaeppbaa.D.Pm
set_option maxRecDepth 4000
theorem ixb {p : By} {n : Int} {i : Nat} {F : List AC → Prop} (hn : n = i) (h : i < p.length) (k : F [AC.v (.int .u8 (p[i].toNat : Int))]) : 0 ≤ n ∧ n < ((byl p).length : Nat) ∧ ∃ r, (byl p)[n.toNat]? = some r ∧ F r := by
  subst hn
  exact ⟨by omega, by rw [byl_length]; omega, _, by rw [Int.toNat_natCast]; exact byl_at h, k⟩
theorem u8_i64 (b : UInt8) : IntKind.i64.wrap (b.toNat : Int) = b.toNat := by
  have := b.toNat_lt
  exact wrap_id (by omega) (by omega)
theorem wrap64n (n : Nat) (h : n < 9223372036854775808) : IntKind.i64.wrap (n : Int) = n := wrap_id (by omega) (by omega)
theorem or_add (a b : UInt8) : IntKind.i64.wrap ((BitVec.ofInt IntKind.i64.bits (IntKind.i64.wrap ((a.toNat : Int) * 2 ^ (min (8 : Int).toNat IntKind.i64.bits))) ||| BitVec.ofInt IntKind.i64.bits (b.toNat : Int)).toNat : Int) = ((256 * a.toNat + b.toNat : Nat) : Int) := by
  have ha := a.toNat_lt
  have hb := b.toNat_lt
  have e1 : (min (8 : Int).toNat IntKind.i64.bits) = 8 := by decide
  rw [e1]
  have e2 : ((a.toNat : Int) * 2 ^ 8) = ((a.toNat * 256 : Nat) : Int) := by push_cast; rfl
  rw [e2, wrap64n (a.toNat * 256) (by omega)]
  have e3 : ∀ n : Nat, n < 2 ^ 64 → (BitVec.ofInt IntKind.i64.bits (n : Int)).toNat = n := fun n hn => by
    show (BitVec.ofInt 64 (n : Int)).toNat = n
    rw [BitVec.ofInt_natCast, BitVec.toNat_ofNat]
    exact Nat.mod_eq_of_lt hn
  rw [BitVec.toNat_or, e3 _ (by omega), e3 _ (by omega)]
  have e4 := Nat.shiftLeft_add_eq_or_of_lt (i := 8) (show b.toNat < 2 ^ 8 by omega) a.toNat
  rw [Nat.shiftLeft_eq] at e4
  rw [← e4, wrap64n _ (by omega)]
  congr 1
  omega
theorem getD_eq {p : By} {i : Nat} (h : i < p.length) : p.getD i 0 = p[i] := by simp [List.getD, h]
theorem num_is (p : By) (i : Nat) (h : i + 1 < p.length) (hb : p.length ≤ Big) : Is Try.prog 61 [.c (.sl 1 (byl p)), vI .i64 (i : Int)] (vI .i64 (num2 p i : Nat)) := by
  refine Is.of TP Try.func61 rfl rfl (Nat.le_of_ble_eq_true rfl) fun st => Pw.of TP [] ?_
  conv => whnf
  refine Pw.drw TP mixed (by kernel_rfl) ?_; conv => whnf
  refine ixb rfl (by omega) ?_
  conv => whnf
  (refine ⟨rfl, ?_⟩; conv => whnf)
  refine ⟨by decide, ?_⟩
  conv => whnf
  refine ixb (i := i + 1) (wrap_nat (by omega) hb) (by omega) ?_
  conv => whnf
  (refine ⟨rfl, ?_⟩; conv => whnf)
  refine Fin.old ?_ (.refl _)
  refine congrArg (vI .i64) ?_
  rw [u8_i64, u8_i64, or_add]
  unfold num2
  rw [getD_eq (by omega), getD_eq (by omega)]
/-- .. of a page in memory -/
def LiveP (st : Sto) (id : Nat) (p : By) : Prop := st id = some (.ar 1 (byl p))
theorem numL_is {st : Sto} {id : Nat} {p : By} (hs : LiveP st id p) (i : Nat) (h : i + 1 < p.length) (hb : p.length ≤ Big) : Does Try.prog 61 [.c (.arr id 0 p.length), vI .i64 (i : Int)] st fun r s => r = vI .i64 (num2 p i : Nat) ∧ s = st := by
  refine Does.of TP Try.func61 rfl rfl (Nat.le_of_ble_eq_true rfl) (Pw.of TP [] ?_)
  conv => whnf
  refine Pw.drw TP mixed (by kernel_rfl) ?_; conv => whnf
  refine ⟨by omega, by omega, ⟨_, hs⟩, ?_⟩
  conv => whnf
  refine ⟨1, byl p, _, hs, (by rw [Nat.zero_add, Int.toNat_natCast]; exact byl_at (by omega)), ?_⟩
  conv => whnf
  (refine ⟨rfl, ?_⟩; conv => whnf)
  refine ⟨by decide, ?_⟩
  conv => whnf
  have hw : IntKind.i64.wrap ((i : Int) + 1) = ((i + 1 : Nat) : Int) := wrap_nat (by omega) hb
  refine ⟨by omega, by omega, ⟨_, hs⟩, ?_⟩
  conv => whnf
  refine ⟨1, byl p, _, hs, (by rw [hw, Nat.zero_add, Int.toNat_natCast]; exact byl_at h), ?_⟩
  conv => whnf
  (refine ⟨rfl, ?_⟩; conv => whnf)
  refine Fin.old ?_ (.refl _)
  refine congrArg (vI .i64) ?_
  rw [u8_i64, u8_i64, or_add]
  unfold num2
  rw [getD_eq (by omega), getD_eq (by omega)]
/-- a page, in whichever way: what a number in it comes to -/
def Num (x : AC) (st : Sto) (p : By) : Prop := ∀ i, i + 1 < p.length → Does Try.prog 61 [.c x, vI .i64 (i : Int)] st fun r s => r = vI .i64 (num2 p i : Nat) ∧ s = st
theorem numF {st : Sto} {p : By} (hb : p.length ≤ Big) : Num (.sl 1 (byl p)) st p := fun i h => num_is p i h hb st
theorem numA {st : Sto} {id : Nat} {p : By} (hs : LiveP st id p) (hb : p.length ≤ Big) {n : Nat} (hn : n = p.length) : Num (.arr id 0 n) st p := fun i h => hn ▸ numL_is hs i h hb
theorem many_does {x : AC} {st : Sto} {p : By} (hN : Num x st p) (h2 : 2 ≤ p.length) : Does Try.prog 40 [.c x] st fun r s => r = vI .i64 (num2 p 0 : Nat) ∧ s = st := by
  refine Does.of TP Try.func40 rfl rfl (Nat.le_of_ble_eq_true rfl) (Pw.of TP [] ?_)
  conv => whnf
  refine (hN 0 (by omega)).mono fun r s h => ?_
  obtain ⟨rfl, rfl⟩ := h
  conv => whnf
  exact Fin.old rfl (.refl _)
theorem size_does {x : AC} {st : Sto} {p : By} (hN : Num x st p) {k : Nat} (h2 : 3 + 2 * k < p.length) (hb : p.length ≤ Big) : Does Try.prog 41 [.c x, vI .i64 (k : Int)] st fun r s => r = vI .i64 (num2 p (2 + 2 * k) : Nat) ∧ s = st := by
  refine Does.of TP Try.func41 rfl rfl (Nat.le_of_ble_eq_true rfl) (Pw.of TP [] ?_)
  conv => whnf
  have h := hN (2 + 2 * k) (by omega)
  have hw : IntKind.i64.wrap (2 + IntKind.i64.wrap (2 * (k : Int))) = ((2 + 2 * k : Nat) : Int) := by
    unfold Big at hb
    rw [wrap_id (n := 2 * (k : Int)) (by omega) (by omega), wrap_id (by omega) (by omega)]
    push_cast; rfl
  rw [← hw] at h
  refine h.mono fun r s h => ?_
  obtain ⟨rfl, rfl⟩ := h
  conv => whnf
  exact Fin.old rfl (.refl _)
theorem hi_i {n : Nat} : IntKind.u8.wrap ((n : Int).fdiv (2 ^ (min (8 : Int).toNat IntKind.i64.bits))) = ((hi n).toNat : Int) := by
  have e1 : (min (8 : Int).toNat IntKind.i64.bits) = 8 := by decide
  rw [e1]
  have e2 : (n : Int).fdiv (2 ^ 8) = ((n / 256 : Nat) : Int) := by
    rw [Int.fdiv_eq_ediv_of_nonneg _ (by decide)]
    push_cast; rfl
  rw [e2]
  unfold hi
  rw [UInt8.toNat_ofNat']
  simp [IntKind.wrap, IntKind.bits, IntKind.signed]
theorem lo_i (n : Nat) : IntKind.u8.wrap (n : Int) = ((lo n).toNat : Int) := by
  unfold lo
  rw [UInt8.toNat_ofNat']
  simp [IntKind.wrap, IntKind.bits, IntKind.signed]
theorem upd_upd (st : Sto) (id : Nat) (a b : Ob) : upd (upd st id a) id b = upd st id b := by
  funext i; unfold upd; split <;> rfl
theorem upd_self {st : Sto} {id : Nat} {a : Ob} (h : st id = some a) : upd st id a = st := by
  funext i; unfold upd; split
  · rename_i e; rw [e, h]
  · rfl
theorem stB {st : Sto} {id : Nat} {p : By} {i j : Nat} {v : Int} {b : UInt8} {F : Sto → Prop} (hs : LiveP st id p) (hj : j = i) (h : i < p.length) (hv : v = (b.toNat : Int)) (k : F (upd st id (.ar 1 (byl (p.set i b))))) :
    ∃ sz rows r, st id = some (.ar sz rows) ∧ rows[j]? = some r ∧ 0 + 1 ≤ r.length ∧ F (upd st id (.ar sz (rows.set j (putAt r 0 [AC.v (.int .u8 v)])))) := by
  subst hj hv
  exact ⟨1, byl p, _, hs, byl_at h, Nat.le_refl 1, by rw [← byl_set] at k; exact k⟩
theorem ixL {st : Sto} {id : Nat} {p : By} {i len : Nat} {n : Int} {F : Prop} (hs : LiveP st id p) (hn : n = i) (h : i < len) (k : F) : 0 ≤ n ∧ n < (len : Int) ∧ (∃ rows, st id = some (.ar 1 rows)) ∧ F := by
  subst hn
  exact ⟨by omega, by omega, ⟨_, hs⟩, k⟩
theorem write_does {st : Sto} {id : Nat} {p : By} (hs : LiveP st id p) {m : Nat} (hm : m = p.length) {i n : Nat} (h : i + 1 < p.length) (hb : p.length ≤ Big) : Does Try.prog 45 [.c (.arr id 0 m), vI .i64 (i : Int), vI .i64 (n : Int)] st fun r s => r = .t [] ∧ s = upd st id (.ar 1 (byl (wr p i n))) := by
  subst hm
  have hw : IntKind.i64.wrap ((i : Int) + 1) = ((i + 1 : Nat) : Int) := wrap_nat (by omega) hb
  refine Does.of TP Try.func45 rfl rfl (Nat.le_of_ble_eq_true rfl) (Pw.of TP [] ?_)
  conv => whnf
  refine ⟨by decide, ?_⟩
  conv => whnf
  (refine ⟨rfl, ?_⟩; conv => whnf)
  (refine ⟨rfl, ?_⟩; conv => whnf)
  refine ixL hs rfl (i := i) (by omega) ?_
  conv => whnf
  refine stB hs (i := i) (b := hi n) (by omega) (by omega) hi_i ?_
  conv => whnf
  have hs2 : LiveP (upd st id (.ar 1 (byl (p.set i (hi n))))) id (p.set i (hi n)) := upd_same _ _ _
  refine ixL hs2 hw (i := i + 1) (by omega) ?_
  conv => whnf
  refine stB hs2 (i := i + 1) (b := lo n) (by rw [hw]; omega) (by rw [List.length_set]; omega) (lo_i n) ?_
  conv => whnf
  rw [upd_upd]
  exact Fin.same rfl (.refl _) ⟨rfl, rfl⟩
end Go.Proofs.Ytfkkajibaeppbaa.D
namespace Go.Proofs.Ytfkkajibaeppbaa.D
set_option linter.unusedVariables false
set_option linter.unusedSimpArgs false
open Go Go.Proofs.Ytfkkajibaeppbaa.D.Pm
set_option maxRecDepth 4000
def spanL : Nat → Nat → List Sl → List (Nat × Nat × Nat)
  | _, _, [] => []
  | i, to, none :: r => spanL (i + 1) to r
  | i, to, some d :: r => (i, to - d.length, to) :: spanL (i + 1) (to - d.length) r
def spC (x : Nat × Nat × Nat) : List AC := [.v (.int .i64 x.1), .v (.int .i64 x.2.1), .v (.int .i64 x.2.2)]
def spI (x : Nat × Nat × Nat) : List AV := [.g (spC x)]
theorem spans_is (p : By) : Is Try.prog 46 [.c (.sl 1 (byl p))] (.c (.fn 63 [.ep [.sl 1 (byl p)]])) := by
  refine Is.of TP Try.func46 rfl rfl (Nat.le_of_ble_eq_true rfl) fun st => Pw.of TP [] ?_
  conv => whnf
  exact Fin.pure
theorem many_pg {l : List Sl} (h : Ok l) (st : Sto) : Does Try.prog 40 [.c (.sl 1 (byl (pg l)))] st fun r s => r = vI .i64 (l.length : Nat) ∧ s = st := by
  have := many_does (numF (st := st) (p := pg l) (by rw [pg_length h.fit]; decide)) (by rw [pg_length h.fit]; decide)
  rwa [pg_many h] at this
theorem size_pg {l : List Sl} (h : Ok l) {k : Nat} (hk : k < l.length) (st : Sto) : Does Try.prog 41 [.c (.sl 1 (byl (pg l))), vI .i64 (k : Int)] st fun r s => r = vI .i64 (sz l[k] : Nat) ∧ s = st := by
  have hl := h.len
  have := size_does (numF (st := st) (p := pg l) (by rw [pg_length h.fit]; decide)) (k := k) (by rw [pg_length h.fit]; omega) (by rw [pg_length h.fit]; decide)
  rwa [pg_size h hk] at this
theorem dsum_take {l : List Sl} {k : Nat} (hk : k < l.length) : dsum (l.take (k + 1)) = dsum (l.take k) + dz l[k] := by
  rw [List.take_succ_eq_append_getElem hk, dsum_app]
  simp [dsum]
theorem dsum_take_le (l : List Sl) (k : Nat) : dsum (l.take k) ≤ dsum l := by
  conv => rhs; rw [← List.take_append_drop k l, dsum_app]
  omega
theorem spans_iter {l : List Sl} (hO : Ok l) : Iter Try.prog 63 [.ep [.sl 1 (byl (pg l))]] ((spanL 0 512 l).map spI) := by
  intro σ ln S Y hY s st K hr
  refine DoesE.of TP Try.func63 rfl rfl rfl (Nat.le_of_ble_eq_true rfl) ?_
  refine PwE.seq (PwE.pw (Pw.of TP [] ?_))
  conv => whnf
  refine PwE.seq (PwE.pw (Pw.of TP [] ?_))
  conv => whnf
  refine (many_pg hO _).go ?_
  conv => whnf
  have hlen : ((byl (pg l)).length : Int) = 512 := by rw [byl_length, pg_length hO.fit]; rfl
  refine PwE.block ?_
  refine PwE.loop (τ := Nat × Sto × σ) (fun x => [(11, vI .i64 (x.1 : Nat)), (10, vI .i64 (l.length : Nat)), (3, vI .i64 ((512 - dsum (l.take x.1) : Nat) : Int)), (0, .c (.yd ln)), (1, .c (.ep [.sl 1 (byl (pg l))]))]) (fun x => x.2.1) (fun x => x.2.2) (fun x => x.1 ≤ l.length ∧ runY Y ((spanL x.1 (512 - dsum (l.take x.1)) (l.drop x.1)).map spI) x.2.2 x.2.1 K) (fun x => l.length - x.1) ⟨(0, st, s), .mk ⟨rfl, rfl, ?_, rfl, rfl, trivial⟩ (.refl _), rfl, Nat.zero_le _, by simpa [dsum] using hr⟩ ?_
  · show some (vI .i64 ((byl (pg l)).length : Nat)) = _
    rw [hlen]; rfl
  rintro ⟨i, st1, s1⟩ ⟨hi, hr1⟩
  refine PwE.seq (PwE.pw (Pw.of TP [] ?_))
  conv => whnf
  dsimp only at hi hr1
  have hdl := dsum_take_le l
  have hneed := hO.fit
  unfold need at hneed
  refine ⟨fun h => ?_, fun h => ?_⟩
  · have hi' : i < l.length := by omega
    have hk1 := dsum_take hi'
    have hsz := size_pg hO hi'
    have e1 : l.drop i = l[i] :: l.drop (i + 1) := List.drop_eq_getElem_cons hi'
    rw [e1] at hr1
    refine PwE.seq (PwE.pw (Pw.of TP [] ?_))
    conv => whnf
    refine PwE.seq (PwE.block (PwE.seq (PwE.pw (Pw.of TP [] ?_))))
    conv => whnf
    refine PwE.seq (PwE.pw (Pw.of TP [] ?_))
    conv => whnf
    refine (hsz _).go ?_
    conv => whnf
    have hwn : IntKind.i64.wrap ((i : Int) + 1) = ((i + 1 : Nat) : Int) := wrap_nat (Nat.le_of_lt hi') (by have := hO.len; unfold Big; omega)
    have hnext := hdl (i + 1)
    generalize l[i] = a at hr1 hk1
    refine PwE.seq (PwE.pw (Pw.of TP [] ?_))
    conv => whnf
    refine ⟨fun h => ?_, fun h => ?_⟩ <;> conv => whnf
    · refine PwE.pw (Pw.of TP [] ?_)
      conv => whnf
      cases a with
      | some d => exact absurd h (by simp [sz]; omega)
      | none =>
        have hd0 : dsum (l.take (i + 1)) = dsum (l.take i) := by rw [hk1]; simp [dz]
        refine ⟨(i + 1, st1, s1), .mk ⟨congrArg (fun x => some (vI .i64 x)) hwn, rfl, ?_, rfl, rfl, trivial⟩ (.refl _), rfl, ⟨hi', ?_⟩, ?_⟩
        · dsimp only; rw [hd0]; rfl
        · dsimp only; rw [hd0]; exact hr1
        · dsimp only; omega
    · cases a with
      | none => exact absurd rfl h
      | some d =>
      simp only [dz] at hk1
      have hw1 : IntKind.i64.wrap (((512 - dsum (l.take i) : Nat) : Int) - IntKind.i64.wrap (((sz (some d) : Nat) : Int) - 1)) = ((512 - dsum (l.take i) - d.length : Nat) : Int) := by
        have e : (((sz (some d) : Nat) : Int) - 1) = (d.length : Int) := by simp [sz]
        rw [e, wrap_id (n := (d.length : Int)) (by omega) (by omega), wrap_id (by omega) (by omega)]
        omega
      simp only [spanL, List.map_cons] at hr1
      refine PwE.seq (PwE.pw (Pw.of TP [] ?_))
      conv => whnf
      refine PwE.seq (PwE.seq (PwE.region TP (spY_ok hY) ?_))
      conv => whnf
      refine .inr ?_
      conv => whnf
      refine .inr ?_
      conv => whnf
      refine .inr ?_
      conv => whnf
      refine .inr ?_
      conv => whnf
      refine .inr ?_
      conv => whnf
      refine .inl ⟨rfl, _, _, _, spI (i, 512 - dsum (l.take i) - d.length, 512 - dsum (l.take i)), rfl, rfl, ?_, hY.mono (fun b s2 st2 hk => ?_) hr1⟩
      · exact congrArg (fun x : Int => some [AV.g [AC.v (.int .i64 (i : Int)), AC.v (.int .i64 x), AC.v (.int .i64 ((512 - dsum (l.take i) : Nat) : Int))]]) hw1
      · cases b
        · rw [if_neg (by decide)] at hk
          refine .inr ?_
          conv => whnf
          refine PwE.pw (Pw.of TP [] ?_)
          conv => whnf
          exact hk
        · rw [if_pos rfl] at hk
          refine .inr ?_
          conv => whnf
          refine PwE.pw (Pw.of TP [] ?_)
          conv => whnf
          refine PwE.pw (Pw.of TP [] ?_)
          conv => whnf
          refine PwE.pw (Pw.of TP [] ?_)
          conv => whnf
          have hd1 : 512 - dsum (l.take (i + 1)) = 512 - dsum (l.take i) - d.length := by omega
          refine ⟨(i + 1, st2, s2), .mk ⟨congrArg (fun x => some (vI .i64 x)) hwn, rfl, ?_, rfl, rfl, trivial⟩ (.refl _), rfl, ⟨hi', ?_⟩, ?_⟩
          · dsimp only; rw [hd1]; exact congrArg (fun x => some (vI .i64 x)) hw1
          · dsimp only; rw [hd1]; exact hk
          · dsimp only; omega
  · have hi' : i = l.length := by omega
    refine PwE.seq (PwE.pw (Pw.of TP [] ?_))
    conv => whnf
    subst hi'
    simp only [List.drop_length, spanL, List.map_nil] at hr1
    exact hr1
end Go.Proofs.Ytfkkajibaeppbaa.D
namespace Go.Proofs.Ytfkkajibaeppbaa.D
set_option linter.unusedVariables false
set_option linter.unusedSimpArgs false
open Go Go.Proofs.Ytfkkajibaeppbaa.D.Pm
set_option maxRecDepth 4000
theorem spanL_nil : ∀ {l : List Sl} {i to : Nat}, spanL i to l = [] → dsum l = 0 ∧ ∀ s ∈ l, s = none
  | [], _, _, _ => ⟨rfl, fun s h => by cases h⟩
  | none :: l, i, to, h => by
    obtain ⟨h1, h2⟩ := spanL_nil (l := l) h
    exact ⟨by simp [dsum, dz, h1], fun s hs => by rcases List.mem_cons.1 hs with h | h; exact h; exact h2 s h⟩
  | some d :: l, i, to, h => by cases h
theorem spanL_cons : ∀ {l : List Sl} {i to : Nat} {x : Nat × Nat × Nat} {r : List (Nat × Nat × Nat)}, spanL i to l = x :: r →
    ∃ k d l2, x = (k, to - d.length, to) ∧ r = spanL (k + 1) (to - d.length) l2 ∧ dsum l = d.length + dsum l2 ∧ i ≤ k ∧ l = List.replicate (k - i) none ++ some d :: l2
  | [], _, _, _, _, h => by cases h
  | none :: l, i, to, x, r, h => by
    obtain ⟨k, d, l2, h1, h2, h3, h4, h5⟩ := spanL_cons (l := l) (i := i + 1) h
    refine ⟨k, d, l2, h1, h2, by simp [dsum, dz, h3], by omega, ?_⟩
    rw [show k - i = (k - (i + 1)) + 1 by omega, List.replicate_succ, List.cons_append, ← h5]
  | some d :: l, i, to, x, r, h => by
    injection h with h1 h2
    exact ⟨i, d, l, h1.symm, h2.symm, rfl, Nat.le_refl _, by simp⟩
theorem low_is {l : List Sl} (hO : Ok l) : Is Try.prog 62 [.c (.sl 1 (byl (pg l)))] (vI .i64 ((512 - dsum l : Nat) : Int)) := by
  have hlen : ((byl (pg l)).length : Int) = ((512 : Nat) : Int) := by rw [byl_length, pg_length hO.fit]
  have hfit := hO.fit
  unfold need at hfit
  refine Is.of TP Try.func62 rfl rfl (Nat.le_of_ble_eq_true rfl) fun st => Pw.of TP [1000003] ?_
  conv => whnf
  intro id3 h3
  conv => whnf
  (apply Exists.intro; apply And.intro; (first | ((with_reducible (repeat (refine Eq.trans (upd_ne _ ?_) ?_; (first | assumption | (apply Ne.symm; assumption))))); first | exact upd_same _ _ _ | assumption) | ((repeat (refine Eq.trans (upd_ne _ ?_) ?_; (first | assumption | (apply Ne.symm; assumption)))); first | exact upd_same _ _ _ | assumption)); refine ⟨Nat.le_of_ble_eq_true rfl, ?_⟩; conv => whnf)
  refine (spans_is _).call ?_
  conv => whnf
  refine Pw.rangeFunc rfl (spans_iter hO) fun ln => ?_
  refine rounds_of spI (fun r st' => Le st st' ∧ ∃ i to r', r = spanL i to r' ∧ to - dsum r' = 512 - dsum l ∧ dsum r' ≤ to ∧ to ≤ 512 ∧ st' id3 = some (.bx [.v (.int .i64 (to : Int))])) ?_ ?_ _ _ ⟨by (first | (with_reducible (iterate 24 (try any_goals (first | exact Le.refl _ | assumption | apply Le.up2))); done) | (iterate 24 (try any_goals (first | exact Le.refl _ | assumption | apply Le.up2)))), 0, 512, l, rfl, rfl, by omega, Nat.le_refl _, ?_⟩
  · rintro st1 ⟨hle, i, to, r', h1, h2, h3', h4, h5⟩
    obtain ⟨h6, _⟩ := spanL_nil h1.symm
    conv => whnf
    (apply Exists.intro; apply And.intro; (first | ((with_reducible (repeat (refine Eq.trans (upd_ne _ ?_) ?_; (first | assumption | (apply Ne.symm; assumption))))); first | exact upd_same _ _ _ | assumption) | ((repeat (refine Eq.trans (upd_ne _ ?_) ?_; (first | assumption | (apply Ne.symm; assumption)))); first | exact upd_same _ _ _ | assumption)); conv => whnf)
    refine Fin.old (congrArg (vI .i64) ?_) hle
    rw [← h2, h6, Nat.sub_zero]
  · rintro x r st1 ⟨hle, i, to, r', h1, h2, h3', h4, h5⟩
    obtain ⟨k, d, l2, rfl, rfl, h6, h7, h8⟩ := spanL_cons h1.symm
    refine ⟨rfl, Pw.of TP [] ?_⟩
    conv => whnf
    refine ⟨rfl, Pw.of TP [] ?_⟩
    conv => whnf
    (apply Exists.intro; apply And.intro; (first | ((with_reducible (repeat (refine Eq.trans (upd_ne _ ?_) ?_; (first | assumption | (apply Ne.symm; assumption))))); first | exact upd_same _ _ _ | assumption) | ((repeat (refine Eq.trans (upd_ne _ ?_) ?_; (first | assumption | (apply Ne.symm; assumption)))); first | exact upd_same _ _ _ | assumption)); refine ⟨Nat.le_of_ble_eq_true rfl, ?_⟩; conv => whnf)
    exact ⟨by (first | (with_reducible (iterate 24 (try any_goals (first | exact Le.refl _ | assumption | apply Le.up2))); done) | (iterate 24 (try any_goals (first | exact Le.refl _ | assumption | apply Le.up2)))), k + 1, to - d.length, l2, rfl, by omega, by omega, by omega, upd_same _ _ _⟩
  · refine (upd_same _ _ _).trans ?_
    rw [hlen]
    rfl
theorem room_is {l : List Sl} (hO : Ok l) : Is Try.prog 42 [.c (.sl 1 (byl (pg l)))] (vI .i64 ((512 - need l : Nat) : Int)) := by
  have hfit := hO.fit
  unfold need at hfit
  refine Is.of TP Try.func42 rfl rfl (Nat.le_of_ble_eq_true rfl) fun st => Pw.of TP [] ?_
  conv => whnf
  refine (low_is hO).call ?_
  conv => whnf
  refine (many_pg hO _).go ?_
  conv => whnf
  refine Fin.old (congrArg (vI .i64) ?_) (.refl _)
  unfold need
  rw [wrap_id (n := 2 * (l.length : Int)) (by omega) (by omega), wrap_id (n := 2 + 2 * (l.length : Int)) (by omega) (by omega), wrap_id (by omega) (by omega)]
  omega
end Go.Proofs.Ytfkkajibaeppbaa.D
namespace Go.Proofs.Ytfkkajibaeppbaa.D
set_option linter.unusedVariables false
set_option linter.unusedSimpArgs false
open Go Go.Proofs.Ytfkkajibaeppbaa.D.Pm
set_option maxRecDepth 4000
def findQ (slot : Int) : Nat → Nat → List Sl → Nat × Nat × Bool
  | _, to, [] => (to, to, false)
  | i, to, none :: r => findQ slot (i + 1) to r
  | i, to, some d :: r => if (i : Int) = slot then (to - d.length, to, true) else if slot < (i : Int) then (to, to, false) else findQ slot (i + 1) (to - d.length) r
theorem findQ_rep (slot : Int) (to : Nat) (r : List Sl) : ∀ (m i : Nat), findQ slot i to (List.replicate m none ++ r) = findQ slot (i + m) to r
  | 0, i => rfl
  | m + 1, i => by
    rw [List.replicate_succ, List.cons_append, findQ, findQ_rep slot to r m (i + 1)]
    congr 1; omega
theorem findQ_none (slot : Int) (to : Nat) : ∀ (l : List Sl) (i : Nat), (∀ s ∈ l, s = none) → findQ slot i to l = (to, to, false)
  | [], i, _ => rfl
  | a :: l, i, h => by
    have := h a (List.mem_cons_self ..)
    subst this
    rw [findQ]
    exact findQ_none slot to l (i + 1) fun s hs => h s (List.mem_cons_of_mem _ hs)
def spanE (slot : Int) (q : Nat × Nat × Bool) : AV := .g [.v (.int .i64 slot), .v (.int .i64 q.1), .v (.int .i64 q.2.1)]
def findR (slot : Int) (q : Nat × Nat × Bool) : AV := .t [spanE slot q, vB q.2.2]
theorem find_is {l : List Sl} (hO : Ok l) (slot : Int) : Is Try.prog 43 [.c (.sl 1 (byl (pg l))), vI .i64 slot] (findR slot (findQ slot 0 512 l)) := by
  have hlen : ((byl (pg l)).length : Int) = ((512 : Nat) : Int) := by rw [byl_length, pg_length hO.fit]
  have hfit := hO.fit
  unfold need at hfit
  refine Is.of TP Try.func43 rfl rfl (Nat.le_of_ble_eq_true rfl) fun st => Pw.of TP [1000006] ?_
  conv => whnf
  intro id4 h4
  conv => whnf
  intro id5 h5
  conv => whnf
  intro id6 h6
  conv => whnf
  have n45 : id4 ≠ id5 := fresh_ne h5 (upd_same _ _ _)
  have n46 : id4 ≠ id6 := fresh_ne h6 (by (first | ((with_reducible (repeat (refine Eq.trans (upd_ne _ ?_) ?_; (first | assumption | (apply Ne.symm; assumption))))); first | exact upd_same _ _ _ | assumption) | ((repeat (refine Eq.trans (upd_ne _ ?_) ?_; (first | assumption | (apply Ne.symm; assumption)))); first | exact upd_same _ _ _ | assumption)))
  have n56 : id5 ≠ id6 := fresh_ne h6 (by (first | ((with_reducible (repeat (refine Eq.trans (upd_ne _ ?_) ?_; (first | assumption | (apply Ne.symm; assumption))))); first | exact upd_same _ _ _ | assumption) | ((repeat (refine Eq.trans (upd_ne _ ?_) ?_; (first | assumption | (apply Ne.symm; assumption)))); first | exact upd_same _ _ _ | assumption)))
  have h5' := (Le.upd h4).none h5
  have h6' : st id6 = none := Le.none (by (first | (with_reducible (iterate 24 (try any_goals (first | exact Le.refl _ | assumption | apply Le.up2))); done) | (iterate 24 (try any_goals (first | exact Le.refl _ | assumption | apply Le.up2))))) h6
  clear h5 h6
  (apply Exists.intro; apply And.intro; (first | ((with_reducible (repeat (refine Eq.trans (upd_ne _ ?_) ?_; (first | assumption | (apply Ne.symm; assumption))))); first | exact upd_same _ _ _ | assumption) | ((repeat (refine Eq.trans (upd_ne _ ?_) ?_; (first | assumption | (apply Ne.symm; assumption)))); first | exact upd_same _ _ _ | assumption)); refine ⟨Nat.le_of_ble_eq_true rfl, ?_⟩; conv => whnf)
  refine (spans_is _).call ?_
  conv => whnf
  refine Pw.rangeFunc rfl (spans_iter hO) fun ln => ?_
  refine rounds_of spI (fun r st' => Le st st' ∧ ∃ i to r', r = spanL i to r' ∧ findQ slot 0 512 l = findQ slot i to r' ∧ to ≤ 512 ∧ st' id4 = some (.bx [.v (.int .i64 0), .v (.int .i64 0), .v (.int .i64 0)]) ∧ st' id5 = some (.bx [.v (.bool false)]) ∧ st' id6 = some (.bx [.v (.int .i64 (to : Int))])) ?_ ?_ _ _ ⟨by (first | (with_reducible (iterate 24 (try any_goals (first | exact Le.refl _ | assumption | apply Le.up2))); done) | (iterate 24 (try any_goals (first | exact Le.refl _ | assumption | apply Le.up2)))), 0, 512, l, rfl, rfl, by omega, by (first | ((with_reducible (repeat (refine Eq.trans (upd_ne _ ?_) ?_; (first | assumption | (apply Ne.symm; assumption))))); first | exact upd_same _ _ _ | assumption) | ((repeat (refine Eq.trans (upd_ne _ ?_) ?_; (first | assumption | (apply Ne.symm; assumption)))); first | exact upd_same _ _ _ | assumption)), by (first | ((with_reducible (repeat (refine Eq.trans (upd_ne _ ?_) ?_; (first | assumption | (apply Ne.symm; assumption))))); first | exact upd_same _ _ _ | assumption) | ((repeat (refine Eq.trans (upd_ne _ ?_) ?_; (first | assumption | (apply Ne.symm; assumption)))); first | exact upd_same _ _ _ | assumption)), ?_⟩
  · rintro st1 ⟨hle, i, to, r', h1, h2, h3, a4, a5, a6⟩
    obtain ⟨_, h7⟩ := spanL_nil h1.symm
    rw [findQ_none slot to r' i h7] at h2
    rw [h2]
    conv => whnf
    repeat' (first | (apply Exists.intro; apply And.intro; (first | ((with_reducible (repeat (refine Eq.trans (upd_ne _ ?_) ?_; (first | assumption | (apply Ne.symm; assumption))))); first | exact upd_same _ _ _ | assumption) | ((repeat (refine Eq.trans (upd_ne _ ?_) ?_; (first | assumption | (apply Ne.symm; assumption)))); first | exact upd_same _ _ _ | assumption)); refine ⟨Nat.le_of_ble_eq_true rfl, ?_⟩; conv => whnf) | (apply Exists.intro; apply And.intro; (first | ((with_reducible (repeat (refine Eq.trans (upd_ne _ ?_) ?_; (first | assumption | (apply Ne.symm; assumption))))); first | exact upd_same _ _ _ | assumption) | ((repeat (refine Eq.trans (upd_ne _ ?_) ?_; (first | assumption | (apply Ne.symm; assumption)))); first | exact upd_same _ _ _ | assumption)); conv => whnf))
    refine Fin.old rfl (by (first | (with_reducible (iterate 24 (try any_goals (first | exact Le.refl _ | assumption | apply Le.up2))); done) | (iterate 24 (try any_goals (first | exact Le.refl _ | assumption | apply Le.up2)))))
  · rintro x r st1 ⟨hle, i, to, r', h1, h2, h3, a4, a5, a6⟩
    obtain ⟨k, d, l2, rfl, rfl, h6, h7, h8⟩ := spanL_cons h1.symm
    rw [h8, findQ_rep, show i + (k - i) = k by omega, findQ] at h2
    rw [h2]
    clear h2 h8
    refine ⟨rfl, Pw.of TP [] ?_⟩
    conv => whnf
    refine ⟨rfl, Pw.of TP [] ?_⟩
    conv => whnf
    repeat' (first | (refine ⟨fun h => ?_, fun h => ?_⟩ <;> conv => whnf) | (apply Exists.intro; apply And.intro; (first | ((with_reducible (repeat (refine Eq.trans (upd_ne _ ?_) ?_; (first | assumption | (apply Ne.symm; assumption))))); first | exact upd_same _ _ _ | assumption) | ((repeat (refine Eq.trans (upd_ne _ ?_) ?_; (first | assumption | (apply Ne.symm; assumption)))); first | exact upd_same _ _ _ | assumption)); refine ⟨Nat.le_of_ble_eq_true rfl, ?_⟩; conv => whnf) | (apply Exists.intro; apply And.intro; (first | ((with_reducible (repeat (refine Eq.trans (upd_ne _ ?_) ?_; (first | assumption | (apply Ne.symm; assumption))))); first | exact upd_same _ _ _ | assumption) | ((repeat (refine Eq.trans (upd_ne _ ?_) ?_; (first | assumption | (apply Ne.symm; assumption)))); first | exact upd_same _ _ _ | assumption)); conv => whnf))
    · have hk : (k : Int) = slot := by assumption
      refine Fin.old ?_ (by (first | (with_reducible (iterate 24 (try any_goals (first | exact Le.refl _ | assumption | apply Le.up2))); done) | (iterate 24 (try any_goals (first | exact Le.refl _ | assumption | apply Le.up2)))))
      rw [if_pos hk]
      subst hk
      rfl
    · rw [if_neg (by assumption), if_pos (by assumption)]
      conv => whnf
      repeat' (first | (apply Exists.intro; apply And.intro; (first | ((with_reducible (repeat (refine Eq.trans (upd_ne _ ?_) ?_; (first | assumption | (apply Ne.symm; assumption))))); first | exact upd_same _ _ _ | assumption) | ((repeat (refine Eq.trans (upd_ne _ ?_) ?_; (first | assumption | (apply Ne.symm; assumption)))); first | exact upd_same _ _ _ | assumption)); refine ⟨Nat.le_of_ble_eq_true rfl, ?_⟩; conv => whnf) | (apply Exists.intro; apply And.intro; (first | ((with_reducible (repeat (refine Eq.trans (upd_ne _ ?_) ?_; (first | assumption | (apply Ne.symm; assumption))))); first | exact upd_same _ _ _ | assumption) | ((repeat (refine Eq.trans (upd_ne _ ?_) ?_; (first | assumption | (apply Ne.symm; assumption)))); first | exact upd_same _ _ _ | assumption)); conv => whnf))
      refine Fin.old rfl (by (first | (with_reducible (iterate 24 (try any_goals (first | exact Le.refl _ | assumption | apply Le.up2))); done) | (iterate 24 (try any_goals (first | exact Le.refl _ | assumption | apply Le.up2)))))
    · rw [if_neg (by assumption), if_neg (by assumption)]
      exact ⟨by (first | (with_reducible (iterate 24 (try any_goals (first | exact Le.refl _ | assumption | apply Le.up2))); done) | (iterate 24 (try any_goals (first | exact Le.refl _ | assumption | apply Le.up2)))), k + 1, to - d.length, l2, rfl, rfl, by omega, by (first | ((with_reducible (repeat (refine Eq.trans (upd_ne _ ?_) ?_; (first | assumption | (apply Ne.symm; assumption))))); first | exact upd_same _ _ _ | assumption) | ((repeat (refine Eq.trans (upd_ne _ ?_) ?_; (first | assumption | (apply Ne.symm; assumption)))); first | exact upd_same _ _ _ | assumption)), by (first | ((with_reducible (repeat (refine Eq.trans (upd_ne _ ?_) ?_; (first | assumption | (apply Ne.symm; assumption))))); first | exact upd_same _ _ _ | assumption) | ((repeat (refine Eq.trans (upd_ne _ ?_) ?_; (first | assumption | (apply Ne.symm; assumption)))); first | exact upd_same _ _ _ | assumption)), upd_same _ _ _⟩
  · refine (upd_same _ _ _).trans ?_
    rw [hlen]
    rfl
end Go.Proofs.Ytfkkajibaeppbaa.D
namespace Go.Proofs.Ytfkkajibaeppbaa.D
set_option linter.unusedVariables false
set_option linter.unusedSimpArgs false
open Go Go.Proofs.Ytfkkajibaeppbaa.D.Pm
set_option maxRecDepth 4000
theorem pg_mid {l : List Sl} (hO : Ok l) : ((byl (pg l)).take (512 - dsum l)).drop (2 + 2 * l.length) = byl (List.replicate (512 - need l) 0) := by
  have hfit := hO.fit
  rw [byl_take, byl_drop]
  congr 1
  unfold pg need at *
  have h1 : (w2 l.length ++ szs l ++ List.replicate (512 - (2 + 2 * l.length + dsum l)) 0).length = 512 - dsum l := by
    simp only [List.length_append, szs_length, List.length_replicate, w2, List.length_cons, List.length_nil]; omega
  have h2 : (w2 l.length ++ szs l).length = 2 + 2 * l.length := by
    simp only [List.length_append, szs_length, w2, List.length_cons, List.length_nil]; try omega
  rw [List.take_append_of_le_length (by omega), List.take_of_length_le (by omega), List.drop_append_of_le_length (by omega), List.drop_of_length_le (by omega)]
  rfl
theorem sz_last {l : List Sl} (hO : Ok l) (h : 0 < l.length) : sz l[l.length - 1] ≠ 0 := by
  have := hO.last l[l.length - 1] (by rw [List.getLast?_eq_getElem?]; exact List.getElem?_eq_getElem (by omega))
  cases hs : l[l.length - 1] with
  | none => exact absurd hs this
  | some d => simp [sz]
theorem bndN {lo hi : Int} {n a b : Nat} {F : Nat → Nat → Prop} (h1 : lo = a) (h2 : hi = b) (h3 : a ≤ b) (h4 : b ≤ n) (k : F a b) : 0 ≤ lo ∧ lo ≤ hi ∧ hi ≤ (n : Int) ∧ F lo.toNat hi.toNat := by
  subst h1 h2
  exact ⟨by omega, by omega, by omega, k⟩
theorem check_pg {l : List Sl} (hO : Ok l) : Is Try.prog 23 [.c (.sl 1 (byl (pg l)))] (vI .i64 0) := by
  have hlen : (byl (pg l)).length = 512 := by rw [byl_length, pg_length hO.fit]
  have hlen' : ((byl (pg l)).length : Int) = 512 := by rw [hlen]; rfl
  have hmid := pg_mid hO
  have hfit := hO.fit
  unfold need at hfit
  refine Is.of TP Try.func23 rfl rfl (Nat.le_of_ble_eq_true rfl) fun st => Pw.of TP [] ?_
  conv => whnf
  refine ⟨fun h => ?_, fun h => ?_⟩ <;> conv => whnf
  · exact absurd hlen' h
  refine (many_pg hO _).go ?_
  conv => whnf
  refine ⟨fun h => ?_, fun h => ?_⟩ <;> conv => whnf
  · omega
  refine (many_pg hO _).go ?_
  conv => whnf
  have key : ∀ z : Nat, z < l.length → z = l.length - 1 → sz (l.getD z none) ≠ 0 := fun z hz e => by
    have := sz_last hO (show 0 < l.length by omega)
    subst e
    simpa [List.getD, hz] using this
  refine ⟨fun h => ?_, fun h => ?_⟩ <;> conv => whnf
  case' refine_1 =>
    have hl0 : 0 < l.length := by omega
    have hw : IntKind.i64.wrap ((l.length : Int) - 1) = ((l.length - 1 : Nat) : Int) := by rw [wrap_id (by omega) (by omega)]; omega
    rw [hw]
    refine (size_pg hO (show l.length - 1 < l.length by omega) _).go ?_
    conv => whnf
    have h2 := sz_last hO hl0
    refine ⟨fun h => (by omega), fun h => ?_⟩
    conv => whnf
  all_goals
    have hwf : IntKind.i64.wrap (2 + IntKind.i64.wrap (2 * (l.length : Int))) = ((2 + 2 * l.length : Nat) : Int) := by
      rw [wrap_id (n := 2 * (l.length : Int)) (by omega) (by omega), wrap_id (by omega) (by omega)]
      push_cast; rfl
    rw [hwf]
    refine Pw.rng (τ := Nat) 35 l.length (by have := hO.len; unfold Big; omega) [0, 4, 34] (fun x => [(5, vI .i64 ((512 - dsum (l.take x) : Nat) : Int))]) (fun i x => x = i) 0 rfl ⟨congrArg (fun z => some (vI .i64 z)) hlen', trivial⟩ rfl fun i x hi hx => Pw.of TP [] ?_
    subst hx
    have hdl := dsum_take_le l
    conv => whnf
    refine ⟨fun h => ?_, fun h => ?_⟩ <;> conv => whnf
    · have hi' : x < l.length := by omega
      have hk1 := dsum_take hi'
      have hd1 := hdl (x + 1)
      have hs1 := sz_lt hO hi'
      refine (size_pg hO hi' _).go ?_
      generalize l[x] = a at hk1 hs1
      conv => whnf
      refine ⟨fun h => ?_, fun h => ?_⟩ <;> conv => whnf
      · omega
      refine ⟨fun h => ?_, fun h => ?_⟩ <;> conv => whnf
      · have hw1 : IntKind.i64.wrap (((512 - dsum (l.take x) : Nat) : Int) - IntKind.i64.wrap (((sz a : Nat) : Int) - 1)) = ((512 - dsum (l.take (x + 1)) : Nat) : Int) := by
          cases a with
          | none => exact absurd h (by simp [sz])
          | some d =>
            simp only [dz] at hk1
            have e : (((sz (some d) : Nat) : Int) - 1) = (d.length : Int) := by simp [sz]
            rw [e, wrap_id (n := (d.length : Int)) (by omega) (by omega), wrap_id (by omega) (by omega)]
            omega
        rw [hw1]
        refine ⟨fun h => ?_, fun h => ?_⟩ <;> conv => whnf
        · omega
        exact ⟨hi', rfl, ⟨rfl, rfl, rfl, trivial⟩, x + 1, ⟨rfl, trivial⟩, .refl _, rfl⟩
      · have hd0 : dsum (l.take (x + 1)) = dsum (l.take x) := by
          cases a with
          | none => rw [hk1]; simp [dz]
          | some d => exact absurd h (by simp [sz])
        refine ⟨fun h => ?_, fun h => ?_⟩ <;> conv => whnf
        · omega
        exact ⟨hi', rfl, ⟨rfl, rfl, rfl, trivial⟩, x + 1, ⟨congrArg (fun z : Nat => some (vI .i64 ((512 - z : Nat) : Int))) hd0.symm, trivial⟩, .refl _, rfl⟩
    · have hx : x = l.length := by omega
      subst hx
      rw [List.take_length]
      refine ⟨by omega, by omega, by omega, ?_⟩
      conv => whnf
      have hmid2 : List.drop (((2 + 2 * l.length : Nat) : Int).toNat) (List.take (((512 - dsum l : Nat) : Int).toNat) (byl (pg l))) = byl (List.replicate (512 - need l) 0) := hmid
      rw [hmid2]
      refine Pw.rng (τ := Unit) 58 (512 - need l) (by unfold Big; omega) [56, 57] (fun _ => []) (fun _ _ => True) () rfl trivial trivial fun i _ hi _ => Pw.of TP [] ?_
      conv => whnf
      have hbl : ((byl (List.replicate (512 - need l) 0)).length : Int) = ((512 - need l : Nat) : Int) := by rw [byl_length, List.length_replicate]
      refine ⟨fun h => ?_, fun h => ?_⟩ <;> conv => whnf
      · have hi' : i < 512 - need l := by rw [hbl] at *; omega
        refine ixb rfl (by rw [List.length_replicate]; exact hi') ?_
        rw [List.getElem_replicate]
        conv => whnf
        refine ⟨fun h => ?_, fun h => ?_⟩ <;> conv => whnf
        · exact absurd rfl h
        exact ⟨hi', rfl, ⟨rfl, rfl, trivial⟩, (), trivial, .refl _, trivial⟩
      · exact Fin.old rfl (.refl _)
end Go.Proofs.Ytfkkajibaeppbaa.D
namespace Go.Proofs.Ytfkkajibaeppbaa.D
set_option linter.unusedVariables false
set_option linter.unusedSimpArgs false
open Go Go.Proofs.Ytfkkajibaeppbaa.D.Pm
set_option maxRecDepth 4000
theorem clone_does {p : By} (hl : p.length ≤ 100000) (st : Sto) : Does Try.prog 47 [.c (.sl 1 (byl p))] st fun r s => ∃ a, r = .c a ∧ Grow st 1 s a (byl p) := by
  refine Does.of TP Try.func47 rfl rfl (Nat.le_of_ble_eq_true rfl) (Pw.of TP [1000005] ?_)
  conv => whnf
  intro b hb
  cases b
  · conv => whnf
    intro id hid
    conv => whnf
    refine ⟨rfl, [], upd_same _ _ _, Nat.le_refl _, (by rw [byl_length]; unfold maxLen; omega), (by rw [byl_length]; dsimp only; omega), fun id2 h2 => ?_⟩
    conv => whnf
    have hid2 : st id2 = none := by
      unfold upd at h2
      by_cases e : id2 = id
      · rw [e]; exact hid
      · rw [if_neg e] at h2; exact h2
    refine Fin.same rfl (.refl _) ⟨_, rfl, ?_, .inr ⟨id2, ?_, ?_, hid2⟩⟩
    · refine Le.up2 (Le.dl (Le.up (.refl _) hid) hid) hid2
    · simp
    · simp [upd]
  · conv => whnf
    have h0 : byl p = [] := by
      cases h : byl p with
      | nil => rfl
      | cons a l =>
        have := hb (by rw [h]; simp)
        cases this
    refine Fin.same rfl (.refl _) ⟨_, rfl, ?_⟩
    rw [h0]
    exact .nil (.refl _)
theorem ok_nil : Ok [] := ⟨by decide, fun s h => (by cases h), fun a h => (by cases h)⟩
theorem pg_nil : pg [] = List.replicate 512 0 := by decide
theorem new_is : Is Try.prog 10 [] (.c (.sl 1 (byl (pg [])))) := by
  refine Is.of TP Try.func10 rfl rfl (Nat.le_of_ble_eq_true rfl) fun st => Pw.of TP [] ?_
  conv => whnf
  refine ⟨rfl, by decide, by decide, by decide, by decide, by decide, fun id hid => ?_⟩
  conv => whnf
  refine Fin.grow (sz := 1) (rows := byl (pg [])) ⟨Le.up (.refl _) hid, .inr ⟨id, ?_, ?_, hid⟩⟩ byl_row ⟨rfl, rfl⟩
  · rw [pg_nil, ← byl_rep]; simp
  · rw [pg_nil, ← byl_rep]; exact upd_same _ _ _
theorem room_top {l : List Sl} (hO : Ok l) : Is Try.prog 16 [.c (.sl 1 (byl (pg l)))] (vI .i64 ((512 - need l : Nat) : Int)) := by
  refine Is.of TP Try.func16 rfl rfl (Nat.le_of_ble_eq_true rfl) fun st => Pw.of TP [] ?_
  conv => whnf
  refine (check_pg hO).call ?_
  conv => whnf
  refine ⟨fun h => ?_, fun h => ?_⟩ <;> conv => whnf
  · exact absurd rfl h
  refine (room_is hO).call ?_
  conv => whnf
  exact Fin.pure
/-- the slots that are not empty -/
def slotL : Nat → List Sl → List Nat
  | _, [] => []
  | i, none :: r => slotL (i + 1) r
  | i, some _ :: r => i :: slotL (i + 1) r
def nums (l : List Nat) : List (List AC) := l.map fun n : Nat => [AC.v (.int .i64 (n : Int))]
theorem spanL_slot : ∀ (l : List Sl) (i to : Nat), (spanL i to l).map (·.1) = slotL i l
  | [], _, _ => rfl
  | none :: l, i, to => spanL_slot l (i + 1) to
  | some d :: l, i, to => by rw [spanL, slotL, List.map_cons, spanL_slot l (i + 1)]
theorem rows0 {st : Sto} {id : Nat} {o : Ob} (h : st id = none) : Le st (del (upd st id o) id) := Le.dl (Le.up (.refl _) h) h
theorem slots_is {l : List Sl} (hO : Ok l) : Is Try.prog 15 [.c (.sl 1 (byl (pg l)))] (.c (.sl 1 (nums (slotL 0 l)))) := by
  have hsl : ∀ (l : List Sl) i, (slotL i l).length ≤ l.length := by
    intro l
    induction l with
    | nil => intro i; exact Nat.zero_le _
    | cons a r ih => intro i; cases a <;> simp [slotL] <;> have := ih (i + 1) <;> omega
  have hs2 := hsl l 0
  have hl := hO.len
  refine Is.of TP Try.func15 rfl rfl (Nat.le_of_ble_eq_true rfl) fun st => Pw.of TP [] ?_
  conv => whnf
  refine (check_pg hO).call ?_
  conv => whnf
  refine ⟨fun h => ?_, fun h => ?_⟩ <;> conv => whnf
  · exact absurd rfl h
  intro id3 h3
  conv => whnf
  refine (spans_is _).call ?_
  conv => whnf
  refine Pw.rangeFunc rfl (spans_iter hO) fun ln => ?_
  have h0 : (slotL 0 l).length ≤ 255 := by omega
  have hm := spanL_slot l 0 512
  generalize slotL 0 l = L at hm h0
  clear hs2 hsl
  refine rounds_of spI (fun r s => ∃ a done, s id3 = some (.bx [a]) ∧ Grow st 1 s a (nums done) ∧ done ++ r.map (·.1) = L) ?_ ?_ _ _ ⟨_, [], upd_same _ _ _, Grow.nilb h3, by simpa using hm⟩
  · rintro s ⟨a, done, h1, h2, h4⟩
    conv => whnf
    (apply Exists.intro; apply And.intro; (first | ((with_reducible (repeat (refine Eq.trans (upd_ne _ ?_) ?_; (first | assumption | (apply Ne.symm; assumption))))); first | exact upd_same _ _ _ | assumption) | ((repeat (refine Eq.trans (upd_ne _ ?_) ?_; (first | assumption | (apply Ne.symm; assumption)))); first | exact upd_same _ _ _ | assumption)); conv => whnf)
    have : done = L := by simpa using h4
    subst this
    exact Fin.grow h2 (fun r hr => by obtain ⟨n, _, rfl⟩ := List.mem_map.1 hr; rfl) ⟨rfl, rfl⟩
  · rintro x r s ⟨a, done, h1, h2, h4⟩
    have hd : done.length + 1 ≤ 255 := by have := congrArg List.length h4; simp at this; omega
    refine ⟨rfl, Pw.of TP [] ?_⟩
    conv => whnf
    refine ⟨rfl, Pw.of TP [] ?_⟩
    conv => whnf
    (apply Exists.intro; apply And.intro; (first | ((with_reducible (repeat (refine Eq.trans (upd_ne _ ?_) ?_; (first | assumption | (apply Ne.symm; assumption))))); first | exact upd_same _ _ _ | assumption) | ((repeat (refine Eq.trans (upd_ne _ ?_) ?_; (first | assumption | (apply Ne.symm; assumption)))); first | exact upd_same _ _ _ | assumption)); conv => whnf)
    refine h2.app (by simp [nums]; unfold maxLen; omega) (by simp [nums]; omega) fun a' s' hg hk => ?_
    have hb := h2.keptb h1 hk
    conv => whnf
    (apply Exists.intro; apply And.intro; (first | ((with_reducible (repeat (refine Eq.trans (upd_ne _ ?_) ?_; (first | assumption | (apply Ne.symm; assumption))))); first | exact upd_same _ _ _ | assumption) | ((repeat (refine Eq.trans (upd_ne _ ?_) ?_; (first | assumption | (apply Ne.symm; assumption)))); first | exact upd_same _ _ _ | assumption)); refine ⟨Nat.le_of_ble_eq_true rfl, ?_⟩; conv => whnf)
    exact ⟨a', done ++ [x.1], upd_same _ _ _, by rw [show nums (done ++ [x.1]) = nums done ++ [[AC.v (.int .i64 ((x.1 : Nat) : Int))]] by simp [nums]]; exact hg.box (cs' := [a']) hb h3, by rw [← h4]; simp⟩
end Go.Proofs.Ytfkkajibaeppbaa.D
namespace Go.Proofs.Ytfkkajibaeppbaa.D
set_option linter.unusedVariables false
set_option linter.unusedSimpArgs false
open Go Go.Proofs.Ytfkkajibaeppbaa.D.Pm
set_option maxRecDepth 4000
theorem findQ_neg {slot : Int} : ∀ {l : List Sl} {i to : Nat}, slot < (i : Int) → findQ slot i to l = (to, to, false)
  | [], _, _, _ => rfl
  | none :: l, i, to, h => by rw [findQ]; exact findQ_neg (by omega)
  | some d :: l, i, to, h => by rw [findQ, if_neg (by omega), if_pos h]
theorem findQ_some : ∀ {l : List Sl} {i to k : Nat} {d : By}, l[k]? = some (some d) → findQ ((i + k : Nat) : Int) i to l = (to - dsum (l.take k) - d.length, to - dsum (l.take k), true)
  | [], _, _, _, _, h => by simp at h
  | none :: l, i, to, 0, d, h => by simp at h
  | some e :: l, i, to, 0, d, h => by
    simp at h
    subst h
    rw [findQ, if_pos (by simp)]
    simp [dsum]
  | none :: l, i, to, k + 1, d, h => by
    rw [findQ, show i + (k + 1) = i + 1 + k by omega, findQ_some (l := l) (k := k) (by simpa using h)]
    simp [dsum, dz]
  | some e :: l, i, to, k + 1, d, h => by
    rw [findQ, if_neg (by omega), if_neg (by omega), show i + (k + 1) = i + 1 + k by omega, findQ_some (l := l) (k := k) (by simpa using h)]
    simp only [List.take_succ_cons, dsum, dz, Nat.sub_sub]
theorem findQ_not : ∀ {l : List Sl} {i to k : Nat}, (∀ d, l[k]? ≠ some (some d)) → findQ ((i + k : Nat) : Int) i to l = (to - dsum (l.take k), to - dsum (l.take k), false)
  | [], i, to, k, h => by simp [findQ, dsum]
  | none :: l, i, to, 0, h => by
    rw [findQ, findQ_neg (by omega)]
    simp [dsum]
  | some e :: l, i, to, 0, h => absurd rfl (h e)
  | none :: l, i, to, k + 1, h => by
    rw [findQ, show i + (k + 1) = i + 1 + k by omega, findQ_not (l := l) (k := k) (fun d => by simpa using h d)]
    simp [dsum, dz]
  | some e :: l, i, to, k + 1, h => by
    rw [findQ, if_neg (by omega), if_neg (by omega), show i + (k + 1) = i + 1 + k by omega, findQ_not (l := l) (k := k) (fun d => by simpa using h d)]
    simp only [List.take_succ_cons, dsum, dz, Nat.sub_sub]
/-- what a slot has, if it is there -/
def getS (l : List Sl) (slot : Int) : Option By := if slot < 0 then none else (l[slot.toNat]?).join
theorem find_some {l : List Sl} {slot : Int} {d : By} (h : getS l slot = some d) : ∃ k, slot = (k : Nat) ∧ l[k]? = some (some d) ∧ findQ slot 0 512 l = (512 - dsum (l.take k) - d.length, 512 - dsum (l.take k), true) := by
  unfold getS at h
  split at h
  · cases h
  · have e : slot = ((0 + slot.toNat : Nat) : Int) := by omega
    have h' : l[slot.toNat]? = some (some d) := by
      cases hh : l[slot.toNat]? with
      | none => rw [hh] at h; cases h
      | some a => rw [hh] at h; cases h; rfl
    refine ⟨slot.toNat, by omega, h', ?_⟩
    have := findQ_some (i := 0) (to := 512) h'
    rw [← e] at this
    exact this
theorem find_not {l : List Sl} {slot : Int} (h : getS l slot = none) : findQ slot 0 512 l = (512 - dsum (l.take slot.toNat), 512 - dsum (l.take slot.toNat), false) := by
  unfold getS at h
  split at h
  · rename_i h0
    rw [findQ_neg (by omega), show slot.toNat = 0 by omega]
    rfl
  · have e : slot = ((0 + slot.toNat : Nat) : Int) := by omega
    have h' : ∀ d, l[slot.toNat]? ≠ some (some d) := fun d hd => by rw [hd] at h; cases h
    have := findQ_not (i := 0) (to := 512) h'
    rw [← e] at this
    exact this
/-- a page comes apart at a slot -/
theorem pg_parts {l : List Sl} {k : Nat} (hk : k < l.length) : pg l = (w2 l.length ++ szs l) ++ List.replicate (512 - need l) 0 ++ back (l.drop (k + 1)) ++ dat l[k] ++ back (l.take k) := by
  unfold pg
  have : back l = back (l.drop (k + 1)) ++ dat l[k] ++ back (l.take k) := by
    conv => lhs; rw [split_at hk, back_app]
    rfl
  rw [this]
  simp only [List.append_assoc]
theorem cut_mid {a b c : By} {i j : Nat} (hi : i = a.length) (hj : j = a.length + b.length) : ((a ++ b ++ c).take j).drop i = b := by
  subst hi hj
  rw [List.take_append_of_le_length (by simp), List.take_of_length_le (by simp), List.drop_append_of_le_length (by simp), List.drop_of_length_le (by simp)]
  rfl
theorem dsum_split {l : List Sl} {k : Nat} (hk : k < l.length) : dsum l = dsum (l.take k) + dz l[k] + dsum (l.drop (k + 1)) := by
  conv => lhs; rw [split_at hk, dsum_app]
  simp [dsum]; omega
theorem pg_get {l : List Sl} (hO : Ok l) {k : Nat} {d : By} (h : l[k]? = some (some d)) : ((byl (pg l)).take (512 - dsum (l.take k))).drop (512 - dsum (l.take k) - d.length) = byl d := by
  have hk : k < l.length := (List.getElem?_eq_some_iff.1 h).1
  have hd : l[k] = some d := (List.getElem?_eq_some_iff.1 h).2
  have hs := dsum_split hk
  have hfit := hO.fit
  rw [byl_take, byl_drop]
  congr 1
  rw [pg_parts hk, hd]
  rw [hd] at hs
  have hl : ((w2 l.length ++ szs l) ++ List.replicate (512 - need l) 0 ++ back (l.drop (k + 1))).length = 512 - dsum (l.take k) - d.length := by
    simp only [List.length_append, szs_length, List.length_replicate, back_length, w2, List.length_cons, List.length_nil]
    unfold need at *
    simp only [dz] at hs
    omega
  refine cut_mid (by rw [hl]) ?_
  rw [hl]
  unfold need at hfit
  simp only [dz] at hs
  show _ = _ + d.length
  omega
def getR (x : Option By) : AV := match x with
  | some d => .t [.c (.sl 1 (byl d)), vI .i64 0]
  | none => .t [.c (.sl 1 []), vI .i64 4]
theorem get_is {l : List Sl} (hO : Ok l) (slot : Int) : Is Try.prog 18 [.c (.sl 1 (byl (pg l))), vI .i64 slot] (getR (getS l slot)) := by
  have hfind := find_is hO slot
  have hlen : (byl (pg l)).length = 512 := by rw [byl_length, pg_length hO.fit]
  cases hg : getS l slot with
  | none =>
    rw [find_not hg] at hfind
    refine Is.of TP Try.func18 rfl rfl (Nat.le_of_ble_eq_true rfl) fun st => Pw.of TP [] ?_
    conv => whnf
    refine (check_pg hO).call ?_
    conv => whnf
    refine ⟨fun h => ?_, fun h => ?_⟩ <;> conv => whnf
    · exact absurd rfl h
    refine hfind.call ?_
    conv => whnf
    exact ⟨fun _ => false, st, getR none, .t _ _ rfl (fun j c c' h1 h2 => by
      match j, h1, h2 with
      | 0, h1, h2 => cases h1; cases h2; exact .c _ _ (.nil 1)
      | 1, h1, h2 => cases h1; cases h2; exact .refl _
      | j + 2, h1, h2 => simp at h1), fun id o h => ⟨h, rfl⟩, rfl, rfl⟩
  | some d =>
    obtain ⟨k, rfl, hk, hq⟩ := find_some hg
    rw [hq] at hfind
    have hcut := pg_get hO hk
    have hd : d.length ≤ 255 := by
      have := hO.few _ (List.mem_of_getElem? hk)
      simpa [dz] using this
    refine Is.of TP Try.func18 rfl rfl (Nat.le_of_ble_eq_true rfl) fun st => Pw.of TP [] ?_
    conv => whnf
    refine (check_pg hO).call ?_
    conv => whnf
    refine ⟨fun h => ?_, fun h => ?_⟩ <;> conv => whnf
    · exact absurd rfl h
    refine hfind.call ?_
    conv => whnf
    refine ⟨by dsimp only; omega, by dsimp only; omega, by rw [hlen]; dsimp only; omega, ?_⟩
    conv => whnf
    have hcut2 : List.drop (((512 - dsum (l.take k) - d.length : Nat) : Int).toNat) (List.take (((512 - dsum (l.take k) : Nat) : Int).toNat) (byl (pg l))) = byl d := hcut
    rw [hcut2]
    refine (clone_does (by omega) _).mono fun r s ⟨a, h1, h2⟩ => ?_
    subst h1
    conv => whnf
    exact Fin.growL h2 byl_row ⟨rfl, rfl⟩
end Go.Proofs.Ytfkkajibaeppbaa.D
namespace Go.Proofs.Ytfkkajibaeppbaa.D
set_option linter.unusedVariables false
set_option linter.unusedSimpArgs false
open Go Go.Proofs.Ytfkkajibaeppbaa.D.Pm
set_option maxRecDepth 4000
def laid (H A data B : By) (n : Nat) : By := H ++ List.replicate n 0 ++ A ++ data ++ B
theorem lay_at {H A X B : By} {z : Nat} {p : By} (hp : p = H ++ List.replicate z 0 ++ A ++ X ++ B) : (p.drop (H.length + z)).take A.length = A := by
  have := cut_mid (a := H ++ List.replicate z 0) (b := A) (c := X ++ B) (i := H.length + z) (j := H.length + z + A.length) (by simp) (by simp)
  rw [show H ++ List.replicate z 0 ++ A ++ (X ++ B) = p by rw [hp]; simp only [List.append_assoc]] at this
  rw [List.drop_take] at this
  rwa [show H.length + z + A.length - (H.length + z) = A.length by omega] at this
theorem lay1 {H A X B : By} {z g : Nat} {p : By} (hp : p = H ++ List.replicate z 0 ++ A ++ X ++ B) (hg : A.length ≤ 512 - g) : List.take g (byl p) ++ List.take (512 - g) (List.take (H.length + z + A.length - (H.length + z)) (List.drop (H.length + z) (byl p))) ++
    List.drop (g + min (List.take (H.length + z + A.length - (H.length + z)) (List.drop (H.length + z) (byl p))).length (512 - g)) (byl p) = byl (p.take g ++ A ++ p.drop (g + A.length)) := by
  rw [show H.length + z + A.length - (H.length + z) = A.length by omega]
  simp only [byl_drop, byl_take, lay_at hp, byl_length, Nat.min_eq_left hg, List.take_of_length_le hg, byl_app]
def fil (p1 : By) (h j : Nat) : By := p1.take h ++ List.replicate j 0 ++ p1.drop (h + j)
theorem fil0 (p1 : By) (h : Nat) : fil p1 h 0 = p1 := by simp [fil]
theorem fil_length {p1 : By} {h j : Nat} (hj : h + j ≤ p1.length) : (fil p1 h j).length = p1.length := by
  unfold fil; simp only [List.length_append, List.length_take, List.length_replicate, List.length_drop]; omega
theorem fil_set {p1 : By} {h j : Nat} (hj : h + j < p1.length) : (fil p1 h j).set (h + j) 0 = fil p1 h (j + 1) := by
  unfold fil
  have e1 : (p1.take h ++ List.replicate j (0 : UInt8)).length = h + j := by rw [List.length_append, List.length_take, List.length_replicate]; omega
  rw [List.drop_eq_getElem_cons hj, List.set_append_right _ _ (by omega), e1, Nat.sub_self, List.set_cons_zero, List.replicate_succ', ← List.append_assoc]
  simp only [List.append_assoc, List.singleton_append, Nat.add_assoc]
theorem lay_end {H A X B data : By} {z : Nat} {p : By} (hp : p = H ++ List.replicate z 0 ++ A ++ X ++ B) (hd : data.length ≤ X.length + z) :
    let g := H.length + z + X.length - data.length
    let p1 := p.take g ++ A ++ p.drop (g + A.length)
    let p2 := fil p1 (H.length + z) (g - (H.length + z))
    p2.take (g + A.length) ++ data ++ p2.drop (g + A.length + data.length) = laid H A data B (z + X.length - data.length) := by
  intro g p1 p2
  have hpl : p.length = H.length + z + A.length + X.length + B.length := by rw [hp]; simp only [List.length_append, List.length_replicate]
  have hg1 : H.length ≤ g := by omega
  have hg2 : g + A.length ≤ p.length := by omega
  have htk : (p.take g).length = g := by rw [List.length_take]; omega
  have e2 : p2 = H ++ List.replicate (g - H.length) 0 ++ A ++ p.drop (g + A.length) := by
    show fil (p.take g ++ A ++ p.drop (g + A.length)) (H.length + z) (g - (H.length + z)) = _
    by_cases hc : g ≤ H.length + z
    · have e1 : p.take g = H ++ List.replicate (g - H.length) 0 := by
        rw [hp]
        simp only [List.append_assoc]
        rw [List.take_append, List.take_of_length_le hg1, List.take_append_of_le_length (by rw [List.length_replicate]; omega), List.take_replicate, Nat.min_eq_left (by omega)]
      rw [show g - (H.length + z) = 0 by omega, fil0, e1]
    · have e1 : p.take (H.length + z) = H ++ List.replicate z 0 := by
        rw [hp]
        simp only [List.append_assoc]
        rw [List.take_append, List.take_of_length_le (by omega), show H.length + z - H.length = z by omega, List.take_append_of_le_length (by rw [List.length_replicate]; omega), List.take_of_length_le (by rw [List.length_replicate]; omega)]
      unfold fil
      rw [show H.length + z + (g - (H.length + z)) = g by omega, List.append_assoc (p.take g), List.take_append_of_le_length (by omega), List.drop_append_of_le_length (by omega), List.drop_of_length_le (by omega), List.take_take, Nat.min_eq_left (by omega), e1, List.nil_append]
      rw [show g - H.length = z + (g - (H.length + z)) by omega, ← List.replicate_append_replicate]
      simp only [List.append_assoc]
  have hh : (H ++ List.replicate (g - H.length) (0 : UInt8) ++ A).length = g + A.length := by simp only [List.length_append, List.length_replicate]; omega
  have e3 : p.drop (g + A.length + data.length) = B := by
    rw [hp, show g + A.length + data.length = (H ++ List.replicate z 0 ++ A ++ X).length by simp only [List.length_append, List.length_replicate]; omega, List.drop_append_of_le_length (Nat.le_refl _), List.drop_of_length_le (Nat.le_refl _), List.nil_append]
  rw [e2, List.take_append_of_le_length (by omega), List.take_of_length_le (by omega), List.drop_append, hh, List.drop_of_length_le (by omega), List.nil_append, List.drop_drop, show g + A.length + (g + A.length + data.length - (g + A.length)) = g + A.length + data.length by omega, e3]
  unfold laid
  rw [show z + X.length - data.length = g - H.length by omega]
theorem lay_does {H A X B data : By} {z : Nat} {st : Sto} {slot : Int} {p : By} (hp : p = H ++ List.replicate z 0 ++ A ++ X ++ B) (hl : p.length = 512) (hlow : Is Try.prog 62 [.c (.sl 1 (byl p))] (vI .i64 ((H.length + z : Nat) : Int))) (hd : data.length ≤ X.length + z) :
    Does Try.prog 44 [.c (.sl 1 (byl p)), .g [.v (.int .i64 slot), .v (.int .i64 ((H.length + z + A.length : Nat) : Int)), .v (.int .i64 ((H.length + z + A.length + X.length : Nat) : Int))], .c (.sl 1 (byl data))] st fun r s => ∃ id, r = .c (.arr id 0 512) ∧ st id = none ∧ Le st s ∧ LiveP s id (laid H A data B (z + X.length - data.length)) := by
  have hlen : H.length + z + A.length + X.length + B.length = 512 := by
    rw [hp] at hl; simp only [List.length_append, List.length_replicate] at hl; exact hl
  refine Does.of TP Try.func44 rfl rfl (Nat.le_of_ble_eq_true rfl) (Pw.of TP [] ?_)
  conv => whnf
  refine (clone_does (p := p) (by rw [hl]; decide) _).mono fun r s ⟨a, h1, hg⟩ => ?_
  subst h1
  obtain ⟨hle, hg⟩ := hg
  have hg2 : ∃ id, a = .arr id 0 512 ∧ s id = some (.ar 1 (byl p)) ∧ st id = none := by
    rcases hg with ⟨_, h⟩ | ⟨id, h1, h2, h3⟩
    · have := congrArg List.length h; rw [byl_length] at this; simp only [List.length_nil] at this; omega
    · rw [byl_length, hl] at h1; exact ⟨id, h1, h2, h3⟩
  clear hg
  obtain ⟨id, rfl, hid, h0⟩ := hg2
  conv => whnf
  refine hlow.call ?_
  conv => whnf
  have hw1 : IntKind.i64.wrap (((H.length + z + A.length + X.length : Nat) : Int) - ((H.length + z + A.length : Nat) : Int)) = (X.length : Int) := by rw [wrap_id (by omega) (by omega)]; omega
  have hbl : ((byl data).length : Int) = (data.length : Int) := by rw [byl_length]
  rw [hw1, hbl]
  have hw2 : IntKind.i64.wrap ((data.length : Int) - (X.length : Int)) = (data.length : Int) - (X.length : Int) := wrap_id (by omega) (by omega)
  rw [hw2]
  refine Pw.drwQ TP mixed [10] 10 [4, 9] (by kernel_rfl) ?_; conv => whnf
  refine ⟨⟨_, hid⟩, ?_⟩
  have hw3 : IntKind.i64.wrap (((H.length + z : Nat) : Int) - ((data.length : Int) - (X.length : Int))) = ((H.length + z + X.length - data.length : Nat) : Int) := by rw [wrap_id (by omega) (by omega)]; omega
  conv => whnf
  rw [hw3]
  refine ⟨by omega, by omega, by omega, ?_⟩
  conv => whnf
  refine ⟨⟨_, hid⟩, ?_⟩
  conv => whnf
  refine ⟨by omega, by omega, by omega, ?_⟩
  conv => whnf
  refine ⟨.refl _, ?_⟩
  conv => whnf
  refine ⟨byl p, hid, (by rw [byl_length]; omega), ?_⟩
  refine ⟨byl p, hid, (by rw [byl_length]; omega), ?_⟩
  conv => whnf
  refine Pw.gen fun S hS => ?_
  have hg : H.length + z + X.length - data.length + A.length ≤ 512 := by omega
  have hS2 : S = upd s id (.ar 1 (byl (p.take (H.length + z + X.length - data.length) ++ A ++ p.drop (H.length + z + X.length - data.length + A.length)))) := by
    rw [hS]
    refine congrArg (fun r => upd s id (.ar 1 r)) ?_
    simp only [Nat.zero_add, Int.toNat_natCast]
    exact lay1 hp (by omega)
  clear hS
  have hend := lay_end (data := data) hp hd
  dsimp only at hend
  have hl1 : (p.take (H.length + z + X.length - data.length) ++ A ++ p.drop (H.length + z + X.length - data.length + A.length)).length = 512 := by
    simp only [List.length_append, List.length_take, List.length_drop]; omega
  generalize hp1 : p.take (H.length + z + X.length - data.length) ++ A ++ p.drop (H.length + z + X.length - data.length + A.length) = p1 at hS2 hend hl1
  have hLe : Le st S := by rw [hS2]; exact hle.up2 h0
  have hSid : LiveP S id p1 := by rw [hS2]; exact upd_same _ _ _
  clear hS2 hp1
  have hgo : IntKind.i64.wrap (((H.length + z : Nat) : Int) - ((data.length : Int) - (X.length : Int))) = ((H.length + z + X.length - data.length : Nat) : Int) := hw3
  generalize hgg : H.length + z + X.length - data.length = g at *
  refine Pw.lpS (σ := Nat) [2, 4, 7, 8, 9] (fun j => [(10, vI .i64 ((H.length + z + j : Nat) : Int))]) (fun j => upd S id (.ar 1 (byl (fil p1 (H.length + z) j)))) (fun j => j ≤ g - (H.length + z)) (fun j => g - (H.length + z) - j) 0 ⟨rfl, trivial⟩ (Le.upS (by rw [show fil p1 (H.length + z) 0 = p1 by simp [fil]]; exact hSid)) (Nat.zero_le _) fun j hj => Pw.of TP [] ?_
  conv => whnf
  rw [hgo]
  refine ⟨fun h => ?_, fun h => ?_⟩ <;> conv => whnf
  · have hj' : H.length + z + j < g := by omega
    have hs : LiveP (upd S id (.ar 1 (byl (fil p1 (H.length + z) j)))) id (fil p1 (H.length + z) j) := upd_same _ _ _
    have hfl : (fil p1 (H.length + z) j).length = 512 := by rw [fil_length (by omega), hl1]
    refine ixL hs rfl (i := H.length + z + j) (by omega) ?_
    conv => whnf
    refine stB hs (i := H.length + z + j) (b := 0) (by omega) (by rw [hfl]; omega) rfl ?_
    conv => whnf
    rw [fil_set (by omega)]
    exact ⟨⟨rfl, rfl, rfl, rfl, rfl, trivial⟩, j + 1, ⟨congrArg (fun x => some (vI .i64 x)) (wrap_nat (n := 512) (by omega) (by decide)), trivial⟩, Le.upU, by omega, by omega⟩
  · have hj' : j = g - (H.length + z) := by omega
    subst hj'
    have hfl : (fil p1 (H.length + z) (g - (H.length + z))).length = 512 := by rw [fil_length (by omega), hl1]
    generalize fil p1 (H.length + z) (g - (H.length + z)) = p2 at hend hfl
    have hw4 : IntKind.i64.wrap (((H.length + z + A.length + X.length : Nat) : Int) - ((byl data).length : Int)) = ((g + A.length : Nat) : Int) := by rw [hbl, wrap_id (by omega) (by omega)]; omega
    rw [hw4]
    refine ⟨⟨_, upd_same _ _ _⟩, by omega, by omega, by omega, ?_⟩
    conv => whnf
    refine ⟨byl p2, upd_same _ _ _, (by rw [byl_length]; omega), ?_⟩
    conv => whnf
    have e : List.take (0 + (((g + A.length : Nat) : Int)).toNat) (byl p2) ++ List.take ((((512 : Nat) : Int)).toNat - (((g + A.length : Nat) : Int)).toNat) (byl data) ++ List.drop (0 + (((g + A.length : Nat) : Int)).toNat + min (byl data).length ((((512 : Nat) : Int)).toNat - (((g + A.length : Nat) : Int)).toNat)) (byl p2) = byl (laid H A data B (z + X.length - data.length)) := by
      simp only [Nat.zero_add, Int.toNat_natCast]
      rw [← hend, byl_length, Nat.min_eq_left (by omega)]
      simp only [byl_take, byl_drop]
      rw [List.take_of_length_le (l := data) (i := 512 - (g + A.length)) (by omega)]
      simp only [byl_app]
    refine Fin.same rfl (.refl _) ⟨id, rfl, h0, ?_, ?_⟩
    · exact (hLe.up2 h0).up2 h0
    · refine (upd_same _ _ _).trans ?_
      exact congrArg (fun r => some (Ob.ar 1 r)) e
end Go.Proofs.Ytfkkajibaeppbaa.D

/- Words and contracts: a plain machine over the model, and what the functions that a law reaches come to, each for every input that its theorem names. -/
import Derived.Test.YtgbdhakkgnmeoaaGreatK0
import Derived.Test.YtgbdhakkgnmeoaaGreatV4
import Derived.WalkKit
import Derived.Lib.Walk
import Derived.Test.YtgbdhakkgnmeoaaGreatK1
namespace Go.Proofs.YtgbdhakkgnmeoaaGreat.D
set_option linter.unusedVariables false
set_option linter.unusedSimpArgs false
open Go Go.Proofs.YtgbdhakkgnmeoaaGreat.D.Pm
set_option maxRecDepth 4000
/-- a type that begins with a builder, and has nothing else -/
structure BT (Tt : TypeId) : Prop where
  mk ::
  lies : liesAt Tryz.prog Tryz.prog.depth Tt (2 / Tryz.prog.cellsOf Tt) 0 70 1 = true
theorem BT.self : BT 70 := ⟨by kernel_rfl⟩
abbrev bP (id : Nat) (Tt : TypeId) : AC := .ab (tpA id Tt 2)
theorem ccheck_does {st0 st : Sto} {id : Nat} {Tt : TypeId} (bt : BT Tt) {a b : AC} {s : ByteArray} (h : Bl st0 st id Tt 5 a b s) :
    Does Tryz.prog 92 [.c (bP id Tt)] st fun r s' => r = .t [] ∧ Bl st0 s' id Tt 5 (bP id Tt) b s := by
  have hi : ∃ j, Tryz.prog.info? 70 = some j ∧ j.size ≠ 0 := by
    obtain ⟨n, h1, h2, _⟩ := TP.f 70 _ rfl
    exact ⟨n, h1, by rw [h2]; decide⟩
  obtain ⟨j, hj, hz⟩ := hi
  refine Does.of TP Tryz.func92 rfl rfl (Nat.le_of_ble_eq_true rfl) ?_
  have hat := h.at_
  refine Pw.seq (Pw.regionX TP (sp := fun o env st K => OpOk Tryz.prog _ o env st K) (fun _ _ _ _ h => h) ?_)
  conv => whnf
  refine .inr ?_
  conv => whnf
  refine .inl ⟨rfl, OpOk.tpCheck rfl rfl ?_⟩
  conv => whnf
  refine .inr ?_
  conv => whnf
  refine .inr ?_
  conv => whnf
  refine ⟨_, hat, ?_⟩
  conv => whnf
  rcases h.ad with rfl | rfl
  · refine .inr ?_
    conv => whnf
    refine Pw.cond (b := true) rfl ?_
    refine Pw.regionX TP (sp := fun o env st K => OpOk Tryz.prog _ o env st K) (fun _ _ _ _ h => h) ?_
    conv => whnf
    refine .inr ?_
    conv => whnf
    refine .inr ?_
    conv => whnf
    refine .inl ⟨rfl, OpOk.tpTo rfl Tryz.underlying67 Tryz.underlying137 hj hz (by decide) rfl hat ?_⟩
    conv => whnf
    refine .inl ⟨rfl, OpOk.same rfl Tryz.func111 (by kernel_rfl) (by kernel_rfl) (by kernel_rfl) (by kernel_rfl) rfl ?_⟩
    conv => whnf
    refine .inl ⟨rfl, OpOk.tpFrom rfl Tryz.underlying137 Tryz.underlying67 hj bt.lies rfl hat ?_⟩
    conv => whnf
    refine .inl ⟨rfl, OpOk.tpCheck rfl rfl ?_⟩
    conv => whnf
    refine .inr ?_
    conv => whnf
    refine .inr ?_
    conv => whnf
    refine ⟨_, hat, Nat.le_of_ble_eq_true rfl, ?_⟩
    conv => whnf
    exact Fin.same rfl (.refl _) ⟨rfl, h.set⟩
  · refine .inl ⟨rfl, OpOk.tpNil rfl Tryz.underlying67 rfl rfl ?_⟩
    conv => whnf
    refine Pw.cond (b := false) rfl ?_
    refine Pw.seq (Pw.regionX TP (sp := fun o env st K => OpOk Tryz.prog _ o env st K) (fun _ _ _ _ h => h) ?_)
    conv => whnf
    refine .inr ?_
    conv => whnf
    refine .inl ⟨rfl, OpOk.tpCheck rfl rfl ?_⟩
    conv => whnf
    refine .inr ?_
    conv => whnf
    refine .inr ?_
    conv => whnf
    refine ⟨_, hat, ?_⟩
    conv => whnf
    refine .inr ?_
    conv => whnf
    refine .inl ⟨rfl, OpOk.tpSame rfl Tryz.underlying67 hj rfl rfl hat ?_⟩
    conv => whnf
    refine Pw.cond (b := false) rfl (Pw.of TP [] ?_)
    conv => whnf
    exact Fin.same rfl (.refl _) ⟨rfl, h⟩
/-- texts behind a builder's -/
theorem wstr_does {st0 st : Sto} {id : Nat} {Tt : TypeId} (bt : BT Tt) {a b : AC} {s : ByteArray} (h : Bl st0 st id Tt 5 a b s) (t : ByteArray) (ht : 0 < t.size) (hl : s.size + t.size ≤ 140737488355328) :
    Does Tryz.prog 61 [.c (bP id Tt), vS t] st fun r s' => (∃ n, r = .t [n, .c (.v .nilIface)]) ∧ ∃ a' b', Bl st0 s' id Tt 5 a' b' (s ++ t) := by
  refine Does.of TP Tryz.func61 rfl rfl (Nat.le_of_ble_eq_true rfl) (Pw.of TP [2] ?_)
  conv => whnf
  refine (ccheck_does bt h).mono fun r s1 h1 => ?_
  obtain ⟨rfl, h1⟩ := h1
  have hat := h1.at_
  conv => whnf
  refine Pw.seq (Pw.regionX TP (sp := fun o env st K => OpOk Tryz.prog _ o env st K) (fun _ _ _ _ h => h) ?_)
  conv => whnf
  refine .inr ?_
  conv => whnf
  refine .inr ?_
  conv => whnf
  refine .inl ⟨rfl, OpOk.tpCheck rfl rfl ?_⟩
  conv => whnf
  refine .inr ?_
  conv => whnf
  refine .inr ?_
  conv => whnf
  refine ⟨_, hat, ?_⟩
  conv => whnf
  refine .inr ?_
  conv => whnf
  obtain ⟨i2, hb2, hn2, hs2⟩ : ∃ i2 : Option Nat, ((b = .v (.slice none 0 0) ∧ s = ⟨#[]⟩ ∧ i2 = none) ∨ ∃ id2, b = .ab (taA id2 s.size 5) ∧ s1 id2 = some (.ar 1 (byc s)) ∧ i2 = some id2) ∧ some id ≠ i2 ∧ ∀ i, i2 = some i → st0 i = none := by
    rcases h1.bf with ⟨rfl, rfl⟩ | ⟨id2, rfl, k1, k2⟩
    · exact ⟨none, .inl ⟨rfl, rfl, rfl⟩, (fun e => by cases e), fun _ e => by cases e⟩
    · exact ⟨some id2, .inr ⟨id2, rfl, k1, rfl⟩, (fun e => by cases e; rw [hat] at k1; cases k1), fun i e => by cases e; exact k2⟩
  refine .inl ⟨rfl, OpOk.appS TP rfl (r := s) rfl rfl rfl rfl rfl rfl rfl rfl rfl ht hl i2 hb2 fun id' s2 hid g1 g2 => ?_⟩
  conv => whnf
  refine .inl ⟨rfl, OpOk.tpCheck rfl rfl ?_⟩
  conv => whnf
  refine .inr ?_
  conv => whnf
  have hne : id ≠ id' := fun e => by subst e; rw [hat] at hid; cases hid
  have hat2 : s2 id = some (.bx [bP id Tt, b]) := g2 id _ hne hat hn2
  have hle : Le st0 s2 := fun i o hi => g2 i o (fun e => by subst e; rw [h1.le _ _ hi] at hid; cases hid) (h1.le i o hi) (fun e => by rw [hs2 i e.symm] at hi; cases hi)
  refine .inr ?_
  conv => whnf
  refine ⟨_, hat2, Nat.le_of_ble_eq_true rfl, ?_⟩
  conv => whnf
  refine Pw.of TP [] ?_
  conv => whnf
  exact Fin.same rfl (.refl _) ⟨⟨_, rfl⟩, _, _, hle.up2 h1.new, h1.new, upd_same _ _ _, .inr rfl, .inr ⟨id', rfl, (upd_ne _ hne.symm).trans g1, h1.le.none hid⟩⟩
theorem blen_is {st0 st : Sto} {id : Nat} {Tt : TypeId} {a b : AC} {s : ByteArray} (h : Bl st0 st id Tt 5 a b s) :
    Does Tryz.prog 33 [.c (bP id Tt)] st fun r s' => r = vI .i64 s.size ∧ s' = st := by
  have hat := h.at_
  refine Does.of TP Tryz.func33 rfl rfl (Nat.le_of_ble_eq_true rfl) (Pw.of TP [1] ?_)
  conv => whnf
  refine Pw.seq (Pw.regionX TP (sp := fun o env st K => OpOk Tryz.prog _ o env st K) (fun _ _ _ _ h => h) ?_)
  conv => whnf
  refine .inr ?_
  conv => whnf
  refine .inl ⟨rfl, OpOk.tpCheck rfl rfl ?_⟩
  conv => whnf
  refine .inr ?_
  conv => whnf
  refine .inr ?_
  conv => whnf
  refine ⟨_, hat, ?_⟩
  conv => whnf
  rcases h.bf with ⟨rfl, rfl⟩ | ⟨id2, rfl, k1, k2⟩
  · refine .inr ?_
    conv => whnf
    refine .inr ?_
    conv => whnf
    refine Pw.of TP [] ?_
    conv => whnf
    exact Fin.same rfl (.refl _) ⟨rfl, rfl⟩
  · refine .inl ⟨rfl, OpOk.taLen TP rfl rfl rfl rfl ?_⟩
    conv => whnf
    refine .inr ?_
    conv => whnf
    refine Pw.of TP [] ?_
    conv => whnf
    exact Fin.same rfl (.refl _) ⟨rfl, rfl⟩
end Go.Proofs.YtgbdhakkgnmeoaaGreat.D
namespace Go.Proofs.YtgbdhakkgnmeoaaGreat.D
set_option linter.unusedVariables false
set_option linter.unusedSimpArgs false
open Go Go.Proofs.YtgbdhakkgnmeoaaGreat.D.Pm Go.RowKit
set_option maxHeartbeats 2000000 in
set_option maxRecDepth 100000 in
theorem bstr_run (b g cap : Nat) (Tt : TypeId) (cb cur : Array Value) (l : List UInt8) (w : World) (hb : w.heap[b]? = some (.cells cb Tt (0, 0))) (hb1 : cb[1]? = some (.slice (some ⟨g, 0, none⟩) l.length cap))
    (hg : w.heap[g]? = some (.cells cur 5 (0, 0))) (hnc : l.length ≤ cap) (hcm : cap ≤ maxLen) (hcs : cap ≤ cur.size) (hcell : ∀ (j : Nat) x, l[j]? = some x → cur[j]? = some (.int .u8 x.toNat)) (h0 : l ≠ []) :
    Calls Tryz.prog 34 #[.pointer (some ⟨b, 0, none⟩)] w fun e w' => e = .returned (.string ⟨l.toArray⟩) ∧ w' = w.drew.freeze ⟨g, 0, none⟩ l.length := by
  have hl0 : l.length ≠ 0 := by simpa using h0
  have c1 : w.drew.cell? ⟨b, 1, none⟩ = some (.slice (some ⟨g, 0, none⟩) l.length cap) := by
    have : w.drew.heap[b]? = some (.cells cb Tt (0, 0)) := hb
    rw [Lib.cell_of_heap this]; exact hb1
  have hSD : (Builtin.unsafeSliceData_ #[68] 95 #[.slice (some ⟨g, 0, none⟩) l.length cap]).run Tryz.prog w.drew = .ok (.pointer (some ⟨g, 0, none⟩)) w.drew :=
    Lib.run_unsafeSliceData_row _ _ _ _ _ _ (by omega)
  have hUS : (Builtin.unsafeString_ #[95, 3] 9 #[.pointer (some ⟨g, 0, none⟩), .int .i64 l.length]).run Tryz.prog w.drew = .ok (.string ⟨l.toArray⟩) (w.drew.freeze ⟨g, 0, none⟩ l.length) := by
    refine Lib.run_unsafeString_row w.drew 95 3 9 5 Tryz.underlying95 (by kernel_rfl) g cur.size (by have hg' : w.drew.heap[g]? = some (.cells cur 5 (0, 0)) := hg; simp [World.shape?, hg']) l h0 (by omega) (by unfold maxLen at hcm; omega) ?_
    intro j x hx
    have hg' : w.drew.heap[g]? = some (.cells cur 5 (0, 0)) := hg
    have := hcell j x hx
    show w.drew.cell? _ = _
    rw [show ((⟨g, 0, none⟩ : Addr).add j) = adr g (0 + j) from adr_add g 0 j, cell_of hg', Nat.zero_add]; exact this
  have mixed : Tryz.prog.follows .mixedOrders = true := mixed
  go_enter Tryz.func34, Tryz.ntmps34
  go_wp2
  go_region
  all_goals (go_wp2; go_ret; exact ⟨rfl, rfl⟩)
/-- the text of a builder -/
theorem bstr_does {st0 st : Sto} {id : Nat} {Tt : TypeId} {a b : AC} {s : ByteArray} (h : Bl st0 st id Tt 5 a b s) (h0 : 0 < s.size) :
    Does Tryz.prog 34 [.c (bP id Tt)] st fun r s' => r = vS s ∧ s' = st0 := by
  refine ⟨⟨Tryz.f34, _, Tryz.func34, rfl, rfl⟩, fun G w vs hI hr => ?_⟩
  obtain ⟨v, rfl⟩ : ∃ v, vs = #[v] := by
    obtain ⟨l⟩ := vs
    match l, hr.1 with
    | [v], _ => exact ⟨v, rfl⟩
  have hv := (hr.2 0 _ v rfl (by simp)).cel
  obtain ⟨g, cb, id2, g2, cap, cur, sz2, rfl, e1, e2, e3, e4, e5, e6, e7, e8, e9, e10, e11⟩ := h.mem h0 hI hv
  refine (bstr_run g g2 cap Tt cb cur s.data.toList w e1 e2 e6 e7 e8 e9 e10 e11).mono fun e w' ⟨he, hw⟩ => ?_
  obtain ⟨f1, f2, f3, f4⟩ := freeze_facts e6 s.data.toList.length
  obtain ⟨x, i⟩ := hI.mute e3 f1 f2 f3 f4
  rw [← hw] at x i
  refine ⟨_, vS s, st0, _, ⟨rfl, rfl⟩, he, x, i.le fun j o hj => ?_, ?_⟩
  · unfold del
    rw [if_neg (fun e => by subst e; rw [e4] at hj; cases hj)]
    exact h.le j o hj
  · exact RV.one _ rfl
end Go.Proofs.YtgbdhakkgnmeoaaGreat.D
namespace Go.Proofs.YtgbdhakkgnmeoaaGreat.D
set_option linter.unusedVariables false
set_option linter.unusedSimpArgs false
open Go Go.Proofs.YtgbdhakkgnmeoaaGreat.D.Pm
set_option maxRecDepth 4000
/-! ### an expression's text -/
def rankK (k op : Int) : Int :=
  if k = 6 then 4 else if k = 4 then (if op = 1 then 7 else if op = 2 then 3 else 4) else if k = 5 then (if op ≤ 2 then op else if op ≤ 8 then 4 else if op = 9 ∨ op = 10 ∨ op = 14 then 5 else 6) else 8
def rankE : Ex → Int
  | .mk k op _ _ _ => rankK k op
def markL : List ByteArray := [⟨#[]⟩, ⟨#[79, 82]⟩, ⟨#[65, 78, 68]⟩, ⟨#[61]⟩, ⟨#[60, 62]⟩, ⟨#[60]⟩, ⟨#[60, 61]⟩, ⟨#[62]⟩, ⟨#[62, 61]⟩, ⟨#[43]⟩, ⟨#[45]⟩, ⟨#[42]⟩, ⟨#[47]⟩, ⟨#[37]⟩, ⟨#[124, 124]⟩]
def markB (op : Int) : ByteArray := markL.getD op.toNat ⟨#[]⟩
def wordB (n : ByteArray) : ByteArray := if n = coalesceS then ⟨#[67, 79, 65, 76, 69, 83, 67, 69]⟩ else if n = lengthS then ⟨#[76, 69, 78, 71, 84, 72]⟩ else ⟨#[65, 66, 83]⟩
def digsB : ByteArray := ⟨#[48, 49, 50, 51, 52, 53, 54, 55, 56, 57]⟩
def digitB (op : Int) : ByteArray := digsB.extract op.toNat (op + 1).toNat
abbrev lpB : ByteArray := ⟨#[40]⟩
abbrev rpB : ByteArray := ⟨#[41]⟩
abbrev spB : ByteArray := ⟨#[32]⟩
abbrev cmB : ByteArray := ⟨#[44, 32]⟩
def kidB (least : Int) (p : Int × ByteArray) : ByteArray := if least ≤ p.1 then p.2 else lpB ++ (p.2 ++ rpB)
def joinB : Bool → List (Int × ByteArray) → ByteArray
  | _, [] => ⟨#[]⟩
  | true, p :: l => kidB 1 p ++ joinB false l
  | false, p :: l => cmB ++ (kidB 1 p ++ joinB false l)
def listB (l : List (Int × ByteArray)) : ByteArray := lpB ++ (joinB true l ++ rpB)
/-- what stands between or around the texts of kids -/
def textN (sv : Val → ByteArray) (k op : Int) (v : Val) (n : ByteArray) (l : List (Int × ByteArray)) : ByteArray :=
  if k = 1 then sv v
  else if k = 2 then n
  else if k = 3 then ⟨#[36]⟩ ++ digitB op
  else if k = 8 then ⟨#[35]⟩ ++ digitB op
  else if k = 7 then wordB n ++ listB l
  else if k = 6 then (match l with | p :: r => kidB 5 p ++ (⟨#[32, 73, 78, 32]⟩ ++ listB r) | _ => ⟨#[]⟩)
  else if k = 4 then (match l with
    | p :: _ => if op = 1 then ⟨#[45]⟩ ++ kidB 7 p else if op = 2 then ⟨#[78, 79, 84, 32]⟩ ++ kidB 3 p else if op = 3 then kidB 5 p ++ ⟨#[32, 73, 83, 32, 78, 85, 76, 76]⟩ else kidB 5 p ++ ⟨#[32, 73, 83, 32, 78, 79, 84, 32, 78, 85, 76, 76]⟩
    | _ => ⟨#[]⟩)
  else (match l with
    | p :: q :: _ => kidB (if rankK k op = 4 then 5 else rankK k op) p ++ ((spB ++ markB op ++ spB) ++ kidB (rankK k op + 1) q)
    | _ => ⟨#[]⟩)
mutual
def textE (sv : Val → ByteArray) : Ex → ByteArray
  | .mk k op v n kids => textN sv k op v n (textEs sv kids)
def textEs (sv : Val → ByteArray) : List Ex → List (Int × ByteArray)
  | [] => []
  | e :: l => (rankE e, textE sv e) :: textEs sv l
end
theorem textEs_map (sv : Val → ByteArray) : ∀ l, textEs sv l = l.map fun e => (rankE e, textE sv e)
  | [] => rfl
  | e :: l => by rw [textEs, textEs_map sv l]; rfl
theorem rank_is (e : Ex) : Is Tryz.prog 99 [.g (eE e)] (vI .i64 (rankE e)) := by
  obtain ⟨k, op, v, n, kids⟩ := e
  refine Is.of TP Tryz.func99 rfl rfl (Nat.le_of_ble_eq_true rfl) fun st => Pw.of TP [] ?_
  conv => whnf
  repeat' (first | (refine ⟨fun h => ?_, fun h => ?_⟩ <;> conv => whnf) | fail)
  all_goals refine Fin.old (congrArg (vI .i64) ?_) (.refl _)
  all_goals unfold rankE rankK
  all_goals first | (repeat (first | rw [if_pos ‹_›] | rw [if_neg ‹_›])); done | (simp [*]; done) | (simp [*]; omega) | trace_state
theorem mark_is (op : Int) (h0 : 0 ≤ op) (h1 : op < 15) : Is Tryz.prog 100 [vI .i64 op] (vS (markB op)) := by
  refine Is.of TP Tryz.func100 rfl rfl (Nat.le_of_ble_eq_true rfl) fun st => Pw.of TP [] ?_
  conv => whnf
  refine ⟨h0, h1, ?_⟩
  conv => whnf
  have : ∃ n : Nat, n < 15 ∧ op = n := ⟨op.toNat, by omega, by omega⟩
  obtain ⟨n, hn, rfl⟩ := this
  rcases (by omega : n = 0 ∨ n = 1 ∨ n = 2 ∨ n = 3 ∨ n = 4 ∨ n = 5 ∨ n = 6 ∨ n = 7 ∨ n = 8 ∨ n = 9 ∨ n = 10 ∨ n = 11 ∨ n = 12 ∨ n = 13 ∨ n = 14) with rfl | rfl | rfl | rfl | rfl | rfl | rfl | rfl | rfl | rfl | rfl | rfl | rfl | rfl | rfl
  all_goals conv => whnf
  all_goals exact Fin.old rfl (.refl _)
theorem word_is (n : ByteArray) : Is Tryz.prog 95 [vS n] (vS (wordB n)) := by
  refine Is.of TP Tryz.func95 rfl rfl (Nat.le_of_ble_eq_true rfl) fun st => Pw.of TP [] ?_
  conv => whnf
  repeat' (first | (refine ⟨fun h => ?_, fun h => ?_⟩ <;> conv => whnf) | fail)
  all_goals refine Fin.old (congrArg vS ?_) (.refl _)
  all_goals unfold wordB coalesceS lengthS
  all_goals first | (rw [if_pos ‹_›]; done) | (rw [if_neg ‹_›, if_pos ‹_›]; done) | (rw [if_neg ‹_›, if_neg ‹_›]; done) | trace_state
theorem rankK_pos {slots : Bool} {k op : Int} {v : Val} {n : ByteArray} {kids : List Ex} (h : rightE slots (.mk k op v n kids) = true) : 1 ≤ rankK k op := by
  unfold rankK
  repeat' split
  all_goals first | omega | skip
  rename_i h5 h2
  subst h5
  unfold rightE at h
  simp at h
  omega
def Lim47 : Nat := 140737488355328
/-- the contract of write, at an expression -/
def WrOk (sv : Val → ByteArray) (Tt : TypeId) (id : Nat) (st0 : Sto) (e : Ex) : Prop :=
  ∀ (st : Sto) (a b : AC) (s : ByteArray), Bl st0 st id Tt 5 a b s → (s ++ textE sv e).size ≤ Lim47 →
    Does Tryz.prog 62 [.g [.ab (bmA 61 (bP id Tt))], .g (eE e)] st fun r s' => r = .t [] ∧ ∃ a b, Bl st0 s' id Tt 5 a b (s ++ textE sv e)
theorem ba_assoc (a b c : ByteArray) : a ++ b ++ c = a ++ (b ++ c) := ByteArray.append_assoc
theorem ba_size (a b : ByteArray) : (a ++ b).size = a.size + b.size := ByteArray.size_append
theorem kid_does (sv : Val → ByteArray) {Tt : TypeId} (bt : BT Tt) {id : Nat} {st0 : Sto} {e : Ex} (hw : WrOk sv Tt id st0 e) (least : Int) (st : Sto) (a b : AC) (s : ByteArray) (h : Bl st0 st id Tt 5 a b s) (hl : (s ++ kidB least (rankE e, textE sv e)).size ≤ Lim47) :
    Does Tryz.prog 97 [.g [.ab (bmA 61 (bP id Tt))], .g (eE e), vI .i64 least] st fun r s' => r = .t [] ∧ ∃ a b, Bl st0 s' id Tt 5 a b (s ++ kidB least (rankE e, textE sv e)) := by
  have hr := rank_is e
  unfold WrOk at hw
  unfold kidB at hl ⊢
  generalize textE sv e = t at hw hl ⊢
  generalize rankE e = rk at hr hl ⊢
  dsimp only at hl ⊢
  cases e
  refine Does.of TP Tryz.func97 rfl rfl (Nat.le_of_ble_eq_true rfl) (Pw.of TP [] ?_)
  conv => whnf
  refine hr.call ?_
  conv => whnf
  refine ⟨fun hc => ?_, fun hc => ?_⟩ <;> conv => whnf
  · rw [if_pos hc] at hl ⊢
    refine (hw st a b s h hl).mono fun r s' hh => ?_
    obtain ⟨rfl, hh⟩ := hh
    conv => whnf
    exact Fin.same rfl (.refl _) ⟨rfl, hh⟩
  · rw [if_neg hc] at hl ⊢
    rw [ba_size, ba_size, ba_size] at hl
    refine ⟨_, _, rfl, ?_⟩
    conv => whnf
    refine (wstr_does bt h lpB (by decide) (by unfold Lim47 at hl; have : lpB.size = 1 := rfl; omega)).mono fun r s1 hh => ?_
    obtain ⟨⟨n1, rfl⟩, a1, b1, hh⟩ := hh
    conv => whnf
    refine (hw s1 a1 b1 _ hh (by rw [ba_size, ba_size]; omega)).mono fun r s2 h2 => ?_
    obtain ⟨rfl, a2, b2, h2⟩ := h2
    conv => whnf
    refine ⟨_, _, rfl, ?_⟩
    conv => whnf
    refine (wstr_does bt h2 rpB (by decide) (by rw [ba_size, ba_size]; unfold Lim47 at hl; omega)).mono fun r s3 h3 => ?_
    obtain ⟨⟨n3, rfl⟩, a3, b3, h3⟩ := h3
    conv => whnf
    exact Fin.same rfl (.refl _) ⟨rfl, a3, b3, by simpa only [ba_assoc] using h3⟩
theorem digit_does {Tt : TypeId} (bt : BT Tt) {id : Nat} {st0 st : Sto} {a b : AC} {s : ByteArray} (h : Bl st0 st id Tt 5 a b s) (op : Int) (h0 : 0 ≤ op) (h9 : op < 10) (hl : (s ++ digitB op).size ≤ Lim47) :
    Does Tryz.prog 94 [.g [.ab (bmA 61 (bP id Tt))], vI .i64 op] st fun r s' => r = .t [] ∧ ∃ a b, Bl st0 s' id Tt 5 a b (s ++ digitB op) := by
  refine Does.of TP Tryz.func94 rfl rfl (Nat.le_of_ble_eq_true rfl) (Pw.of TP [] ?_)
  conv => whnf
  refine Pw.drwC TP mixed [6] (by kernel_rfl) ?_; conv => whnf
  have w1 : IntKind.i64.wrap (op + 1) = op + 1 := wrap_id (by omega) (by omega)
  rw [w1]
  refine ⟨h0, by omega, by show op + 1 ≤ ((10 : Nat) : Int); omega, ?_⟩
  conv => whnf
  refine ⟨_, _, rfl, ?_⟩
  conv => whnf
  have hd : (digitB op).size = 1 := by
    have : digsB.size = 10 := rfl
    unfold digitB
    rw [ByteArray.size_extract]; omega
  rw [ba_size, hd] at hl
  refine (wstr_does bt h (digitB op) (by omega) (by rw [hd]; exact hl)).mono fun r s1 hh => ?_
  obtain ⟨⟨n1, rfl⟩, hh⟩ := hh
  conv => whnf
  exact Fin.same rfl (.refl _) ⟨rfl, hh⟩
theorem joinB_false (l : List (Int × ByteArray)) (h : l ≠ []) : joinB false l = cmB ++ joinB true l := by
  cases l with
  | nil => exact absurd rfl h
  | cons p l => rfl
theorem list_does (sv : Val → ByteArray) {Tt : TypeId} (bt : BT Tt) {id : Nat} {st0 : Sto} (l : List Ex) (hn : l.length ≤ Big) (hw : ∀ e ∈ l, WrOk sv Tt id st0 e) (st : Sto) (a b : AC) (s : ByteArray) (h : Bl st0 st id Tt 5 a b s) (hl : (s ++ listB (textEs sv l)).size ≤ Lim47) :
    Does Tryz.prog 96 [.g [.ab (bmA 61 (bP id Tt))], .c (.sl 7 (eEs l))] st fun r s' => r = .t [] ∧ ∃ a b, Bl st0 s' id Tt 5 a b (s ++ listB (textEs sv l)) := by
  unfold listB at hl ⊢
  rw [ba_size, ba_size, ba_size] at hl
  have z1 : lpB.size = 1 := rfl
  have z2 : rpB.size = 1 := rfl
  have z3 : cmB.size = 2 := rfl
  refine Does.of TP Tryz.func96 rfl rfl (Nat.le_of_ble_eq_true rfl) (Pw.of TP [] ?_)
  conv => whnf
  refine ⟨_, _, rfl, ?_⟩
  conv => whnf
  refine (wstr_does bt h lpB (by decide) (by unfold Lim47 at hl; omega)).mono fun r s1 hh => ?_
  obtain ⟨⟨n1, rfl⟩, a1, b1, hh⟩ := hh
  conv => whnf
  refine Pw.rngS (τ := AC × AC × ByteArray × Sto) 11 l.length hn [2, 9, 10] (fun _ _ => []) (fun _ y => y.2.2.2) (fun i y => Bl st0 y.2.2.2 id Tt 5 y.1 y.2.1 y.2.2.1 ∧ y.2.2.1 ++ joinB (decide (i = 0)) ((textEs sv l).drop i) = s ++ lpB ++ joinB true (textEs sv l)) (a1, b1, s ++ lpB, s1) rfl ⟨⟩ (.refl _) ⟨hh, rfl⟩ fun i y hi hg => Pw.of TP [5] ?_
  obtain ⟨a2, b2, t, y⟩ := y
  obtain ⟨hB, hJ⟩ := hg
  dsimp only at hB hJ ⊢
  have hsz := congrArg ByteArray.size hJ
  rw [ba_size, ba_size, ba_size] at hsz
  conv => whnf
  refine ⟨fun hc => ?_, fun hc => ?_⟩ <;> conv => whnf
  · have hi' := ltE hc
    refine ixE hi' ?_
    have hk := hw l[i] (List.getElem_mem hi')
    have hdr : (textEs sv l).drop i = (rankE l[i], textE sv l[i]) :: (textEs sv l).drop (i + 1) := by
      rw [textEs_map, List.drop_eq_getElem_cons (by rw [List.length_map]; exact hi'), List.getElem_map]
    rw [hdr] at hJ hsz
    have hkd := fun t a b st' h hl => kid_does sv bt hk 1 st' a b t h hl
    generalize rankE l[i] = rk at hJ hsz hkd
    generalize textE sv l[i] = tx at hJ hsz hkd
    generalize l[i] = e at hkd ⊢
    clear hk hdr
    cases e
    conv => whnf
    intro id5 h5
    conv => whnf
    refine ⟨_, upd_same _ _ _, Nat.le_refl 7, ?_⟩
    conv => whnf
    refine Pw.frzB 5 [2, 4, 9, 10, 11] (st' := y) rfl (upd_same _ _ _) (fun j o hj => ⟨(upd_ne _ (fresh_ne h5 hj)).trans ((upd_ne _ (fresh_ne h5 hj)).trans hj), fresh_ne h5 hj⟩) ?_
    refine Pw.cut (τ := AC × AC × ByteArray × Sto) [2, 5, 9, 10, 11] (fun _ => []) (fun y => y.2.2.2) (fun y => Bl st0 y.2.2.2 id Tt 5 y.1 y.2.1 y.2.2.1 ∧ y.2.2.1 ++ (kidB 1 (rk, tx) ++ joinB false ((textEs sv l).drop (i + 1))) = s ++ lpB ++ joinB true (textEs sv l)) (Pw.of TP [] ?_) fun y3 hy => Pw.of TP [] ?_
    · conv => whnf
      refine ⟨fun hp => ?_, fun hp => ?_⟩ <;> conv => whnf
      · have hi0 : decide (i = 0) = false := decide_eq_false (by omega)
        rw [hi0] at hJ hsz
        have e1 : (joinB false ((rk, tx) :: (textEs sv l).drop (i + 1))).size = 2 + (kidB 1 (rk, tx) ++ joinB false ((textEs sv l).drop (i + 1))).size := by
          show (cmB ++ _).size = _; rw [ba_size, z3]
        refine ⟨_, _, rfl, ?_⟩
        conv => whnf
        refine (wstr_does bt hB cmB (by decide) (by unfold Lim47 at hl; omega)).mono fun r s3 h3 => ?_
        obtain ⟨⟨n3, rfl⟩, a3, b3, h3⟩ := h3
        conv => whnf
        exact ⟨⟨rfl, rfl, rfl, rfl, rfl, trivial⟩, (a3, b3, t ++ cmB, s3), trivial, .refl _, h3, by rw [ba_assoc]; exact hJ⟩
      · obtain rfl : i = 0 := by omega
        exact ⟨⟨rfl, rfl, rfl, rfl, rfl, trivial⟩, (a2, b2, t, y), trivial, .refl _, hB, hJ⟩
    · obtain ⟨a3, b3, t3, y3⟩ := y3
      obtain ⟨hB3, hJ3⟩ := hy
      dsimp only at hB3 hJ3
      have hz3 := congrArg ByteArray.size hJ3
      rw [ba_size, ba_size, ba_size, ba_size] at hz3
      conv => whnf
      refine (hkd t3 a3 b3 y3 hB3 (by rw [ba_size]; omega)).mono fun r s4 h4 => ?_
      obtain ⟨rfl, a4, b4, h4⟩ := h4
      conv => whnf
      exact ⟨hi', rfl, ⟨rfl, rfl, rfl, trivial⟩, (a4, b4, t3 ++ kidB 1 (rk, tx), s4), trivial, .refl _, h4, by rw [ba_assoc, decide_eq_false (by omega)]; exact hJ3⟩
  · obtain rfl := nltE hc hi
    have hd0 : (textEs sv l).drop l.length = [] := by rw [textEs_map]; exact List.drop_eq_nil_of_le (by rw [List.length_map]; exact Nat.le_refl _)
    rw [hd0] at hJ
    have e0 : t ++ joinB (decide (l.length = 0)) [] = t := by
      have : joinB (decide (l.length = 0)) [] = ⟨#[]⟩ := by cases decide (l.length = 0) <;> rfl
      rw [this]; apply ByteArray.ext; simp
    rw [e0] at hJ
    refine ⟨_, _, rfl, ?_⟩
    conv => whnf
    refine (wstr_does bt hB rpB (by decide) (by rw [hJ, ba_size, ba_size]; unfold Lim47 at hl; omega)).mono fun r s5 h5 => ?_
    obtain ⟨⟨n5, rfl⟩, a5, b5, h5⟩ := h5
    conv => whnf
    exact Fin.same rfl (.refl _) ⟨rfl, a5, b5, by rw [hJ] at h5; simpa only [ba_assoc] using h5⟩
end Go.Proofs.YtgbdhakkgnmeoaaGreat.D
namespace Go.Proofs.YtgbdhakkgnmeoaaGreat.D
set_option linter.unusedVariables false
set_option linter.unusedSimpArgs false
open Go Go.Proofs.YtgbdhakkgnmeoaaGreat.D.Pm
set_option maxRecDepth 4000
def unN (op : Int) (p : Int × ByteArray) : ByteArray := if op = 1 then ⟨#[45]⟩ ++ kidB 7 p else if op = 2 then ⟨#[78, 79, 84, 32]⟩ ++ kidB 3 p else if op = 3 then kidB 5 p ++ ⟨#[32, 73, 83, 32, 78, 85, 76, 76]⟩ else kidB 5 p ++ ⟨#[32, 73, 83, 32, 78, 79, 84, 32, 78, 85, 76, 76]⟩
theorem un_does (sv : Val → ByteArray) {Tt : TypeId} (bt : BT Tt) {id : Nat} {st0 : Sto} {e : Ex} (hw : WrOk sv Tt id st0 e) (k op : Int) (v : Val) (n : ByteArray) (h1 : 1 ≤ op) (h4 : op ≤ 4) (st : Sto) (a b : AC) (s : ByteArray) (h : Bl st0 st id Tt 5 a b s) (hl : (s ++ unN op (rankE e, textE sv e)).size ≤ Lim47) :
    Does Tryz.prog 98 [.g [.ab (bmA 61 (bP id Tt))], .g (eE (.mk k op v n [e]))] st fun r s' => r = .t [] ∧ ∃ a b, Bl st0 s' id Tt 5 a b (s ++ unN op (rankE e, textE sv e)) := by
  have hkd := fun least t a b st' h hl => kid_does sv bt hw least st' a b t h hl
  generalize (rankE e, textE sv e) = p at hl hkd ⊢
  clear hw
  unfold unN at hl ⊢
  have hop : op = 1 ∨ op = 2 ∨ op = 3 ∨ op = 4 := by omega
  obtain ⟨k', o', v', n', kids'⟩ := e
  refine Does.of TP Tryz.func98 rfl rfl (Nat.le_of_ble_eq_true rfl) (Pw.of TP [] ?_)
  conv => whnf
  refine ⟨fun hc => ?_, fun hc => ?_⟩ <;> conv => whnf
  · rw [if_pos hc] at hl ⊢
    rw [← ba_assoc] at hl ⊢
    refine ⟨_, _, rfl, ?_⟩
    conv => whnf
    refine (wstr_does bt h ⟨#[45]⟩ (by decide) (by rw [ba_size, ba_size] at hl; unfold Lim47 at hl; omega)).mono fun r s1 hh => ?_
    obtain ⟨⟨n1, rfl⟩, a1, b1, hh⟩ := hh
    conv => whnf
    refine Pw.drwC TP mixed [5] (by kernel_rfl) ?_; conv => whnf
    refine ⟨by decide, by show (0 : Int) < ((1 : Nat) : Int); decide, _, rfl, ?_⟩
    conv => whnf
    refine (hkd 7 _ _ _ _ hh hl).mono fun r s2 h2 => ?_
    obtain ⟨rfl, h2⟩ := h2
    conv => whnf
    exact Fin.same rfl (.refl _) ⟨rfl, h2⟩
  rw [if_neg hc] at hl ⊢
  refine ⟨fun hc => ?_, fun hc => ?_⟩ <;> conv => whnf
  · rw [if_pos hc] at hl ⊢
    rw [← ba_assoc] at hl ⊢
    refine ⟨_, _, rfl, ?_⟩
    conv => whnf
    refine (wstr_does bt h ⟨#[78, 79, 84, 32]⟩ (by decide) (by rw [ba_size, ba_size] at hl; unfold Lim47 at hl; omega)).mono fun r s1 hh => ?_
    obtain ⟨⟨n1, rfl⟩, a1, b1, hh⟩ := hh
    conv => whnf
    refine Pw.drwC TP mixed [5] (by kernel_rfl) ?_; conv => whnf
    refine ⟨by decide, by show (0 : Int) < ((1 : Nat) : Int); decide, _, rfl, ?_⟩
    conv => whnf
    refine (hkd 3 _ _ _ _ hh hl).mono fun r s2 h2 => ?_
    obtain ⟨rfl, h2⟩ := h2
    conv => whnf
    exact Fin.same rfl (.refl _) ⟨rfl, h2⟩
  rw [if_neg hc] at hl ⊢
  refine ⟨fun hc => ?_, fun hc => ?_⟩ <;> conv => whnf
  · rw [if_pos hc] at hl ⊢
    rw [← ba_assoc] at hl ⊢
    refine Pw.drwC TP mixed [5] (by kernel_rfl) ?_; conv => whnf
    refine ⟨by decide, by show (0 : Int) < ((1 : Nat) : Int); decide, _, rfl, ?_⟩
    conv => whnf
    refine (hkd 5 _ _ _ _ h (by rw [ba_size] at hl; omega)).mono fun r s2 h2 => ?_
    obtain ⟨rfl, a2, b2, h2⟩ := h2
    conv => whnf
    refine ⟨_, _, rfl, ?_⟩
    conv => whnf
    refine (wstr_does bt h2 ⟨#[32, 73, 83, 32, 78, 85, 76, 76]⟩ (by decide) (by rw [ba_size] at hl; unfold Lim47 at hl; omega)).mono fun r s1 hh => ?_
    obtain ⟨⟨n1, rfl⟩, hh⟩ := hh
    conv => whnf
    exact Fin.same rfl (.refl _) ⟨rfl, hh⟩
  rw [if_neg hc] at hl ⊢
  rw [← ba_assoc] at hl ⊢
  refine ⟨fun hc => ?_, fun hc => absurd (by omega : op = 4) hc⟩
  conv => whnf
  refine Pw.drwC TP mixed [5] (by kernel_rfl) ?_; conv => whnf
  refine ⟨by decide, by show (0 : Int) < ((1 : Nat) : Int); decide, _, rfl, ?_⟩
  conv => whnf
  refine (hkd 5 _ _ _ _ h (by rw [ba_size] at hl; omega)).mono fun r s2 h2 => ?_
  obtain ⟨rfl, a2, b2, h2⟩ := h2
  conv => whnf
  refine ⟨_, _, rfl, ?_⟩
  conv => whnf
  refine (wstr_does bt h2 ⟨#[32, 73, 83, 32, 78, 79, 84, 32, 78, 85, 76, 76]⟩ (by decide) (by rw [ba_size] at hl; unfold Lim47 at hl; omega)).mono fun r s1 hh => ?_
  obtain ⟨⟨n1, rfl⟩, hh⟩ := hh
  conv => whnf
  exact Fin.same rfl (.refl _) ⟨rfl, hh⟩
end Go.Proofs.YtgbdhakkgnmeoaaGreat.D
namespace Go.Proofs.YtgbdhakkgnmeoaaGreat.D
set_option linter.unusedVariables false
set_option linter.unusedSimpArgs false
open Go Go.Proofs.YtgbdhakkgnmeoaaGreat.D.Pm
set_option maxRecDepth 4000
/-- no literal -/
def nlE : Ex → Bool
  | .mk k .. => decide (k ≠ 1)
theorem right4 {slots : Bool} {op : Int} {v : Val} {n : ByteArray} {kids : List Ex} (h : rightE slots (.mk 4 op v n kids) = true) : kids.length = 1 ∧ 1 ≤ op ∧ op ≤ 4 := by
  unfold rightE at h; simp at h; omega
theorem right5 {slots : Bool} {op : Int} {v : Val} {n : ByteArray} {kids : List Ex} (h : rightE slots (.mk 5 op v n kids) = true) : kids.length = 2 ∧ 1 ≤ op ∧ op ≤ 14 := by
  unfold rightE at h; simp at h; omega
theorem right6 {slots : Bool} {op : Int} {v : Val} {n : ByteArray} {kids : List Ex} (h : rightE slots (.mk 6 op v n kids) = true) : 2 ≤ kids.length := by
  unfold rightE at h; simp at h; omega
theorem right3 {slots : Bool} {op : Int} {v : Val} {n : ByteArray} {kids : List Ex} (h : rightE slots (.mk 3 op v n kids) = true) : 1 ≤ op ∧ op ≤ 6 := by
  unfold rightE at h; simp at h; omega
theorem right8 {slots : Bool} {op : Int} {v : Val} {n : ByteArray} {kids : List Ex} (h : rightE slots (.mk 8 op v n kids) = true) : 0 ≤ op ∧ op < 6 := by
  unfold rightE at h; simp at h; omega
theorem right2 {slots : Bool} {op : Int} {v : Val} {n : ByteArray} {kids : List Ex} (h : rightE slots (.mk 2 op v n kids) = true) : isName n = true := by
  unfold rightE at h; simp at h; exact h.2.2
theorem isName_pos {n : ByteArray} (h : isName n = true) : 0 < n.size := by
  unfold isName right at h
  rw [if_neg (by decide)] at h
  by_cases hn : n = ⟨#[]⟩
  · rw [if_pos hn] at h; exact absurd h (by decide)
  · rcases Nat.eq_zero_or_pos n.size with h0 | h0
    · have e : n = ByteArray.empty := by simpa using h0
      exact absurd e hn
    · exact h0
theorem wordB_pos (n : ByteArray) : 0 < (wordB n).size ∧ (wordB n).size ≤ 8 := by
  unfold wordB
  split
  · exact ⟨by decide, by decide⟩
  · split
    · exact ⟨by decide, by decide⟩
    · exact ⟨by decide, by decide⟩
theorem markB_le (op : Int) (h1 : 1 ≤ op) (h4 : op ≤ 14) : 0 < (markB op).size ∧ (markB op).size ≤ 3 := by
  rcases (by omega : op = 1 ∨ op = 2 ∨ op = 3 ∨ op = 4 ∨ op = 5 ∨ op = 6 ∨ op = 7 ∨ op = 8 ∨ op = 9 ∨ op = 10 ∨ op = 11 ∨ op = 12 ∨ op = 13 ∨ op = 14) with rfl | rfl | rfl | rfl | rfl | rfl | rfl | rfl | rfl | rfl | rfl | rfl | rfl | rfl <;> exact ⟨by decide, by decide⟩
set_option maxHeartbeats 1000000 in
theorem write_does (sv : Val → ByteArray) {Tt : TypeId} (bt : BT Tt) {id : Nat} {st0 : Sto} : ∀ e, okE e → allE (rightE true) e = true → allE nlE e = true → WrOk sv Tt id st0 e := by
  refine Ex.ind fun k op v n kids ih ok hr hnl => ?_
  rw [allE, allEs_all, Bool.and_eq_true] at hr hnl
  have hkids : ∀ e ∈ kids, WrOk sv Tt id st0 e := fun e he => ih e he (okEs_all ok.2.2.2 e he) (List.all_eq_true.1 hr.2 e he) (List.all_eq_true.1 hnl.2 e he)
  have hk1 : k ≠ 1 := of_decide_eq_true hnl.1
  have hr := hr.1
  have hB := ok.2.2.1
  clear ih ok hnl
  intro st a b s h hl
  rw [textE] at hl ⊢
  refine Does.of TP Tryz.func62 rfl rfl (Nat.le_of_ble_eq_true rfl) (Pw.of TP [] ?_)
  conv => whnf
  refine ⟨fun hc => absurd hc hk1, fun hc => ?_⟩
  conv => whnf
  refine ⟨fun hc => ?_, fun hc => ?_⟩ <;> conv => whnf
  · -- a column
    subst hc
    refine ⟨_, _, rfl, ?_⟩
    conv => whnf
    have ht : textN sv 2 op v n (textEs sv kids) = n := rfl
    rw [ht] at hl ⊢
    refine (wstr_does bt h n (isName_pos (right2 hr)) (by rw [ba_size] at hl; exact hl)).mono fun r s1 hh => ?_
    obtain ⟨⟨n1, rfl⟩, hh⟩ := hh
    conv => whnf
    exact Fin.same rfl (.refl _) ⟨rfl, hh⟩
  refine ⟨fun hc => ?_, fun hc => ?_⟩ <;> conv => whnf
  · -- a parameter
    subst hc
    have ht : textN sv 3 op v n (textEs sv kids) = ⟨#[36]⟩ ++ digitB op := rfl
    rw [ht, ← ba_assoc] at hl ⊢
    obtain ⟨o1, o2⟩ := right3 hr
    refine ⟨_, _, rfl, ?_⟩
    conv => whnf
    refine (wstr_does bt h ⟨#[36]⟩ (by decide) (by rw [ba_size, ba_size] at hl; unfold Lim47 at hl; omega)).mono fun r s1 hh => ?_
    obtain ⟨⟨n1, rfl⟩, a1, b1, hh⟩ := hh
    conv => whnf
    refine (digit_does bt hh op (by omega) (by omega) hl).mono fun r s2 h2 => ?_
    obtain ⟨rfl, h2⟩ := h2
    conv => whnf
    exact Fin.same rfl (.refl _) ⟨rfl, h2⟩
  refine ⟨fun hc => ?_, fun hc => ?_⟩ <;> conv => whnf
  · -- a slot
    subst hc
    have ht : textN sv 8 op v n (textEs sv kids) = ⟨#[35]⟩ ++ digitB op := rfl
    rw [ht, ← ba_assoc] at hl ⊢
    obtain ⟨o1, o2⟩ := right8 hr
    refine ⟨_, _, rfl, ?_⟩
    conv => whnf
    refine (wstr_does bt h ⟨#[35]⟩ (by decide) (by rw [ba_size, ba_size] at hl; unfold Lim47 at hl; omega)).mono fun r s1 hh => ?_
    obtain ⟨⟨n1, rfl⟩, a1, b1, hh⟩ := hh
    conv => whnf
    refine (digit_does bt hh op (by omega) (by omega) hl).mono fun r s2 h2 => ?_
    obtain ⟨rfl, h2⟩ := h2
    conv => whnf
    exact Fin.same rfl (.refl _) ⟨rfl, h2⟩
  refine ⟨fun hc => ?_, fun hc => ?_⟩ <;> conv => whnf
  · -- a call
    subst hc
    have ht : textN sv 7 op v n (textEs sv kids) = wordB n ++ listB (textEs sv kids) := rfl
    rw [ht, ← ba_assoc] at hl ⊢
    obtain ⟨w1, w2⟩ := wordB_pos n
    have hw := word_is n
    generalize wordB n = w at hl hw w1 w2 ⊢
    refine Pw.drwC TP mixed [5] (by kernel_rfl) ?_; conv => whnf
    refine Is.draw hw ?_
    conv => whnf
    refine ⟨_, _, rfl, ?_⟩
    conv => whnf
    refine (wstr_does bt h w w1 (by rw [ba_size, ba_size] at hl; unfold Lim47 at hl; omega)).mono fun r s1 hh => ?_
    obtain ⟨⟨n1, rfl⟩, a1, b1, hh⟩ := hh
    conv => whnf
    refine (list_does sv bt kids hB hkids _ _ _ _ hh hl).mono fun r s2 h2 => ?_
    obtain ⟨rfl, h2⟩ := h2
    conv => whnf
    exact Fin.same rfl (.refl _) ⟨rfl, h2⟩
  refine ⟨fun hc => ?_, fun hc => ?_⟩ <;> conv => whnf
  · -- one of a list
    subst hc
    obtain ⟨x, l, rfl⟩ : ∃ x l, kids = x :: l := by
      have := right6 hr
      match kids, this with
      | x :: l, _ => exact ⟨x, l, rfl⟩
    have ht : textN sv 6 op v n (textEs sv (x :: l)) = kidB 5 (rankE x, textE sv x) ++ (⟨#[32, 73, 78, 32]⟩ ++ listB (textEs sv l)) := rfl
    rw [ht, ← ba_assoc, ← ba_assoc] at hl ⊢
    have hkd := fun t a b st' h hl => kid_does sv bt (hkids x (List.mem_cons_self ..)) 5 st' a b t h hl
    have hls := list_does sv bt l (Nat.le_trans (Nat.le_succ _) hB) fun e he => hkids e (List.mem_cons_of_mem _ he)
    generalize (rankE x, textE sv x) = p at hl hkd ⊢
    have hel : (eEs l).length = l.length := eEs_len l
    have hdr : List.drop (Int.toNat 1) (List.take ((eEs (x :: l)).length : Int).toNat (eEs (x :: l))) = eEs l := by rw [Int.toNat_natCast, List.take_length]; rfl
    clear hkids hr ht
    cases x
    refine Pw.drwC TP mixed [5] (by kernel_rfl) ?_; conv => whnf
    refine ⟨by decide, by rw [eEs_len]; show (0 : Int) < ((l.length + 1 : Nat) : Int); omega, _, rfl, ?_⟩
    conv => whnf
    refine (hkd _ _ _ _ h (by rw [ba_size, ba_size] at hl; omega)).mono fun r s1 h1 => ?_
    obtain ⟨rfl, a1, b1, h1⟩ := h1
    conv => whnf
    refine ⟨_, _, rfl, ?_⟩
    conv => whnf
    refine (wstr_does bt h1 ⟨#[32, 73, 78, 32]⟩ (by decide) (by rw [ba_size, ba_size] at hl; unfold Lim47 at hl; omega)).mono fun r s2 h2 => ?_
    obtain ⟨⟨n2, rfl⟩, a2, b2, h2⟩ := h2
    conv => whnf
    refine Pw.drwC TP mixed [4] (by kernel_rfl) ?_; conv => whnf
    refine ⟨by decide, by rw [eEs_len]; show (1 : Int) ≤ ((l.length + 1 : Nat) : Int); omega, Int.le_refl _, ?_⟩
    conv => whnf
    rw [hdr]
    refine (hls _ _ _ _ h2 hl).mono fun r s3 h3 => ?_
    obtain ⟨rfl, h3⟩ := h3
    conv => whnf
    exact Fin.same rfl (.refl _) ⟨rfl, h3⟩
  refine ⟨fun hc => ?_, fun hc => ?_⟩ <;> conv => whnf
  · -- of one kid
    subst hc
    obtain ⟨r1, r2, r3⟩ := right4 hr
    obtain ⟨x, rfl⟩ : ∃ x, kids = [x] := by
      match kids, r1 with
      | [x], _ => exact ⟨x, rfl⟩
    have ht : textN sv 4 op v n (textEs sv [x]) = unN op (rankE x, textE sv x) := rfl
    rw [ht] at hl ⊢
    refine (un_does sv bt (hkids x (List.mem_cons_self ..)) 4 op v n r2 r3 st a b s h hl).mono fun r s1 h1 => ?_
    obtain ⟨rfl, h1⟩ := h1
    conv => whnf
    exact Fin.same rfl (.refl _) ⟨rfl, h1⟩
  refine ⟨fun hc => ?_, fun hc => ?_⟩ <;> conv => whnf
  · -- of two kids
    subst hc
    obtain ⟨r1, r2, r3⟩ := right5 hr
    obtain ⟨x, y, rfl⟩ : ∃ x y, kids = [x, y] := by
      match kids, r1 with
      | [x, y], _ => exact ⟨x, y, rfl⟩
    have hmk := mark_is op (by omega) (by omega)
    have hml := markB_le op r2 r3
    have hrk := rank_is (.mk 5 op v n [x, y])
    have hrr : 1 ≤ rankK 5 op ∧ rankK 5 op ≤ 8 := by
      unfold rankK
      repeat' split
      all_goals omega
    have ht : textN sv 5 op v n (textEs sv [x, y]) = kidB (if rankK 5 op = 4 then 5 else rankK 5 op) (rankE x, textE sv x) ++ ((spB ++ markB op ++ spB) ++ kidB (rankK 5 op + 1) (rankE y, textE sv y)) := rfl
    have hrE : rankE (.mk 5 op v n [x, y]) = rankK 5 op := rfl
    rw [ht, ← ba_assoc, ← ba_assoc] at hl ⊢
    rw [hrE] at hrk
    have hkx := fun least t a b st' h hl => kid_does sv bt (hkids x (List.mem_cons_self ..)) least st' a b t h hl
    have hky := fun least t a b st' h hl => kid_does sv bt (hkids y (List.mem_cons_of_mem _ (List.mem_cons_self ..))) least st' a b t h hl
    generalize (rankE x, textE sv x) = p at hl hkx ⊢
    generalize (rankE y, textE sv y) = q at hl hky ⊢
    generalize markB op = mk at hl hmk hml ⊢
    generalize rankK 5 op = rk at hl hrk hrr ⊢
    clear hkids hr ht hrE
    refine Pw.drw TP mixed (by kernel_rfl) ?_; conv => whnf
    refine Is.drawI hrk fun q1 h1 => ?_
    subst h1
    conv => whnf
    refine Is.drawI hrk fun q1 h1 => ?_
    subst h1
    have hw1 : IntKind.i64.wrap (rk + 1) = rk + 1 := wrap_id (by omega) (by omega)
    conv => whnf
    clear hrk
    cases x
    cases y
    refine ⟨fun hc4 => ?_, fun hc4 => ?_⟩ <;> conv => whnf
    all_goals first | rw [if_pos hc4] at hl ⊢ | rw [if_neg hc4] at hl ⊢
    all_goals have hz : (spB ++ mk ++ spB).size = mk.size + 2 := by rw [ba_size, ba_size]; show 1 + mk.size + 1 = _; omega
    all_goals have hl0 := hl
    all_goals rw [ba_size, ba_size, ba_size, hz] at hl0
    all_goals refine Pw.drwC TP mixed [6] (by kernel_rfl) ?_; conv => whnf
    all_goals refine ⟨by decide, by show (0 : Int) < ((2 : Nat) : Int); decide, _, rfl, ?_⟩
    all_goals conv => whnf
    all_goals refine (hkx _ _ _ _ _ h (by rw [ba_size]; omega)).mono fun r s1 h1 => ?_
    all_goals obtain ⟨rfl, a1, b1, h1⟩ := h1
    all_goals conv => whnf
    all_goals refine Pw.drwC TP mixed [7] (by kernel_rfl) ?_; conv => whnf
    all_goals refine Is.draw hmk ?_
    all_goals conv => whnf
    all_goals refine ⟨by show 1 + mk.size ≤ _; omega, ?_⟩
    all_goals conv => whnf
    all_goals refine ⟨by rw [ba_size]; show 1 + mk.size + 1 ≤ _; omega, ?_⟩
    all_goals conv => whnf
    all_goals refine ⟨_, _, rfl, ?_⟩
    all_goals conv => whnf
    all_goals refine (wstr_does bt h1 (spB ++ mk ++ spB) (by omega) (by rw [ba_size, hz]; unfold Lim47 at hl0; omega)).mono fun r s2 h2 => ?_
    all_goals obtain ⟨⟨n2, rfl⟩, a2, b2, h2⟩ := h2
    all_goals conv => whnf
    all_goals refine Pw.drwC TP mixed [6] (by kernel_rfl) ?_; conv => whnf
    all_goals refine ⟨by decide, by show (1 : Int) < ((2 : Nat) : Int); decide, _, rfl, ?_⟩
    all_goals conv => whnf
    all_goals refine (hky (IntKind.i64.wrap (rk + 1)) _ _ _ _ h2 (by rw [hw1]; exact hl)).mono fun r s3 h3 => ?_
    all_goals obtain ⟨rfl, h3⟩ := h3
    all_goals rw [hw1] at h3
    all_goals conv => whnf
    all_goals exact Fin.same rfl (.refl _) ⟨rfl, h3⟩
  · exfalso
    unfold rightE at hr
    simp [*] at hr
end Go.Proofs.YtgbdhakkgnmeoaaGreat.D
namespace Go.Proofs.YtgbdhakkgnmeoaaGreat.D
set_option linter.unusedVariables false
set_option linter.unusedSimpArgs false
open Go Go.Proofs.YtgbdhakkgnmeoaaGreat.D.Pm
set_option maxRecDepth 4000
theorem ba_nil (s : ByteArray) : (⟨#[]⟩ : ByteArray) ++ s = s := ByteArray.empty_append
theorem print_is (sv : Val → ByteArray) (e : Ex) (ok : okE e) (hc : checkE true e = 0) (hnl : allE nlE e = true) (hp : 0 < (textE sv e).size) (hl : (textE sv e).size ≤ 400) : Is Tryz.prog 41 [.g (eE e)] (.t [vS (textE sv e), vI .i64 0]) := by
  have hk := check_is e ok true
  rw [hc] at hk
  have hr : allE (rightE true) e = true := by
    unfold checkE at hc
    split at hc
    · exact absurd hc (by decide)
    · split at hc
      · assumption
      · exact absurd hc (by decide)
  have hw := fun id st0 => write_does sv BT.self (id := id) (st0 := st0) e ok hr hnl
  unfold WrOk at hw
  generalize textE sv e = t at hw hp hl ⊢
  clear hr hnl hc ok
  intro st
  cases e
  refine Does.of TP Tryz.func41 rfl rfl (Nat.le_of_ble_eq_true rfl) (Pw.of TP [4] ?_)
  conv => whnf
  refine hk.call ?_
  conv => whnf
  refine ⟨fun h => absurd rfl h, fun _ => ?_⟩
  conv => whnf
  refine Pw.seq (Pw.regionX TP (sp := fun o env st K => OpOk Tryz.prog _ o env st K) (fun _ _ _ _ h => h) ?_)
  conv => whnf
  refine .inl ⟨rfl, OpOk.allocT TP rfl rfl fun id hid => ?_⟩
  conv => whnf
  have hB0 : Bl st (upd st id (.bx [.v (.pointer none), .v (.slice none 0 0)])) id 70 5 (.v (.pointer none)) (.v (.slice none 0 0)) ⟨#[]⟩ := ⟨(Le.refl st).up hid, hid, upd_same _ _ _, .inl rfl, .inl ⟨rfl, rfl⟩⟩
  refine Pw.of TP [] ?_
  conv => whnf
  refine (hw id st _ _ _ _ hB0 (by rw [ba_nil]; unfold Lim47; omega)).mono fun r s1 h1 => ?_
  obtain ⟨rfl, a1, b1, h1⟩ := h1
  rw [ba_nil] at h1
  conv => whnf
  refine (blen_is h1).mono fun r s2 h2 => ?_
  obtain ⟨rfl, rfl⟩ := h2
  conv => whnf
  refine ⟨fun hc => absurd hc (by omega), fun _ => ?_⟩
  conv => whnf
  refine (bstr_does h1 hp).mono fun r s2 h2 => ?_
  obtain ⟨rfl, rfl⟩ := h2
  conv => whnf
  exact Fin.same rfl (.refl _) ⟨rfl, rfl⟩
end Go.Proofs.YtgbdhakkgnmeoaaGreat.D

/- What an argument reads as, kind by kind: a number, a bool, a string, a slice, a struct, out of the reading of its cells; for every world. -/
import Derived.Test.YtbmgenifdlgbmaaWMore
import Derived.WalkKit
import Derived.ProofKit
import Derived.ChangeArms
namespace Go.Proofs.Ytbmgenifdlgbmaa.Open
open Go.RowKit Go.Proofs.YtbmgenifdlgbmaaW.PrintWords

/-- What has the type t, by its cells, is of the kind d, and is as ok says: read with at most m rounds. -/
def OpensF {α : Type} (P : Program) (t : TypeId) (d : Kd α) (ok : α → Prop) (m : Nat) : Prop :=
  P.cellsOf t = d.sz ∧ ∀ (H : Type) (enc : TypeId × Value → H) (w : World) (base : Nat) (spare : Nat → Bool) (held : Bool) (fuel : Nat) (cs : List Value) (x : DataW H × List MemPlace),
    fuel ≤ m → DataW.trod enc P w base spare held fuel t cs = some x → ∃ a, d.K w a cs ∧ ok a
/-- .. with any number of rounds. -/
def Opens {α : Type} (P : Program) (t : TypeId) (d : Kd α) (ok : α → Prop) : Prop := ∀ m, OpensF P t d ok m

theorem OpensF.mono {α : Type} {P : Program} {t : TypeId} {d : Kd α} {ok ok' : α → Prop} {m : Nat} (h : OpensF P t d ok m) (i : ∀ a, ok a → ok' a) : OpensF P t d ok' m :=
  ⟨h.1, fun H enc w base spare held fuel cs x hm hx => by
    obtain ⟨a, hk, ho⟩ := h.2 H enc w base spare held fuel cs x hm hx
    exact ⟨a, hk, i a ho⟩⟩

theorem OpensF.int {P : Program} {t : TypeId} {k : IntKind} (ht : P.underlying t = some (.int k)) (hc : P.cellsOf t = 1) (m : Nat) : OpensF P t (Kd.int k) (fun n => (Lit.int k n).wf = true) m :=
  ⟨hc, fun H enc w base spare held fuel cs x _ hx => by
    obtain ⟨n, rfl, _, hw⟩ := DataW.trod_int ht hx
    exact ⟨n, rfl, hw⟩⟩

theorem OpensF.string {P : Program} {t : TypeId} (ht : P.underlying t = some .string) (hc : P.cellsOf t = 1) (m : Nat) : OpensF P t Kd.string (fun s => s.size ≤ maxLen) m :=
  ⟨hc, fun H enc w base spare held fuel cs x _ hx => by
    obtain ⟨s, rfl, _, hs⟩ := DataW.trod_string ht hx
    exact ⟨s, rfl, hs⟩⟩

theorem trod_bool {H : Type} {enc : TypeId × Value → H} {P : Program} {w : World} {base : Nat} {spare : Nat → Bool} {held : Bool} {fuel : Nat} {t : TypeId} {cs : List Value} {x : DataW H × List MemPlace}
    (ht : P.underlying t = some .bool) (h : DataW.trod enc P w base spare held fuel t cs = some x) : ∃ b, cs = [.bool b] := by
  cases fuel with
  | zero => simp [DataW.trod] at h
  | succ n =>
    unfold DataW.trod at h
    rw [ht] at h
    split at h <;> simp_all

theorem OpensF.bool {P : Program} {t : TypeId} (ht : P.underlying t = some .bool) (hc : P.cellsOf t = 1) (m : Nat) : OpensF P t Kd.bool (fun _ => True) m :=
  ⟨hc, fun H enc w base spare held fuel cs x _ hx => by
    obtain ⟨b, rfl⟩ := trod_bool ht hx
    exact ⟨b, rfl, trivial⟩⟩

theorem cells_some : ∀ (w : World) (base : Nat) (a : Addr) (n : Nat) (cs : List Value), w.cells? base a n = some cs → cs.length = n ∧ ∀ i u, cs[i]? = some u → w.cell? (a.add i) = some u := by
  intro w base a n cs h
  unfold World.cells? at h
  split at h
  · have hl : cs.length = n := by simpa using mapM_some_length h
    refine ⟨hl, fun i u hi => ?_⟩
    have hlt : i < n := by
      have := (List.getElem?_eq_some_iff.1 hi).1
      omega
    have := mapM_some_get h i i (by simp [hlt])
    rw [hi] at this
    exact this
  · simp_all

theorem list_of {β α : Type} {Q : Nat → β → α → Prop} : ∀ (es : List β), (∀ i y, es[i]? = some y → ∃ a, Q i y a) → ∃ xs : List α, xs.length = es.length ∧ ∀ (i : Nat) (a : α), xs[i]? = some a → ∃ y, es[i]? = some y ∧ Q i y a := by
  intro es h
  have hx : ∀ i : Fin es.length, ∃ a, Q i.1 (es[i.1]'i.2) a := fun i => h i.1 _ (List.getElem?_eq_getElem i.2)
  let g : Fin es.length → α := fun i => Classical.choose (hx i)
  have hg : ∀ i : Fin es.length, Q i.1 (es[i.1]'i.2) (g i) := fun i => Classical.choose_spec (hx i)
  refine ⟨List.ofFn g, by simp, fun i a hi => ?_⟩
  rw [List.getElem?_ofFn] at hi
  split at hi
  · rename_i hlt
    cases hi
    exact ⟨_, List.getElem?_eq_getElem hlt, hg ⟨i, hlt⟩⟩
  · cases hi

theorem OpensF.slice {α : Type} {P : Program} {t e : TypeId} {d : Kd α} {ok : α → Prop} {m : Nat} (ht : P.underlying t = some (.slice e)) (hc : P.cellsOf t = 1) (h : OpensF P e d ok m) :
    OpensF P t (Kd.slice e d) (fun xs => xs.length ≤ maxLen ∧ ∀ x ∈ xs, ok x) m :=
  ⟨hc, fun H enc w base spare held fuel cs x hfm hx => by
    rcases DataW.trod_slice ht hx with ⟨rfl, _⟩ | ⟨a, len, cap, elems, rest, n, hfn, rfl, _, _, hl, hm, he, hel, _, _⟩
    · exact ⟨[], ⟨none, 0, rfl, Nat.le_refl _, ⟨rfl, by simp, fun h => absurd h (by simp)⟩⟩, by simp, fun x hx => by simp at hx⟩
    · obtain ⟨xs, hxl, hxs⟩ := list_of (Q := fun i y a2 => (∃ c : List Value, c.length = d.sz ∧ d.K w a2 c ∧ ∀ j u, c[j]? = some u → w.cell? (a.add (i * d.sz + j)) = some u) ∧ ok a2) elems (by
        intro i y hi
        have hlt : i < len := by
          have := (List.getElem?_eq_some_iff.1 hi).1
          omega
        have hb := hel i hlt
        rw [hi] at hb
        obtain ⟨c, hc1, hc2⟩ := Option.bind_eq_some_iff.1 hb
        obtain ⟨hcl, hcell⟩ := cells_some w base _ _ c hc1
        obtain ⟨a2, hk, ho⟩ := h.2 H enc w base spare held n c y (by omega) hc2
        rw [h.1] at hcl hcell
        refine ⟨a2, ⟨c, hcl, hk, fun j u hj => ?_⟩, ho⟩
        have := hcell j u hj
        rwa [Addr.add_add] at this)
      have hxn : xs.length = len := by omega
      refine ⟨xs, ⟨some a, cap, by rw [hxn], by omega, ⟨rfl, by unfold maxLen at hm; omega, fun _ => ⟨a, rfl, fun j p hj => ?_⟩⟩⟩, by omega, fun p hp => ?_⟩
      · obtain ⟨y, hy, ⟨c, h1, h2, h3⟩, _⟩ := hxs j p hj
        exact ⟨c, h1, h2, h3⟩
      · obtain ⟨j, hj, rfl⟩ := List.mem_iff_getElem.1 hp
        obtain ⟨y, hy, _, ho⟩ := hxs j _ (List.getElem?_eq_getElem hj)
        exact ho⟩

/-- The fields of a struct, one behind the other, from a place on. -/
def Fields {α : Type} (P : Program) (off : Nat) (fs : List Field) (d : Kd α) (ok : α → Prop) (m : Nat) : Prop :=
  (fs.map fun f => P.cellsOf f.type).sum = d.sz ∧ ∀ (H : Type) (enc : TypeId × Value → H) (w : World) (base : Nat) (spare : Nat → Bool) (held : Bool) (n : Nat) (cs : List Value),
    n ≤ m → cs.length = off + d.sz →
    (∀ (i : Nat) (f : Field), fs[i]? = some f → ∃ x, DataW.trod enc P w base spare held n f.type ((cs.drop f.offset).take (P.cellsOf f.type)) = some x) →
    ∃ a, d.K w a (cs.drop off) ∧ ok a

theorem Fields.last {α : Type} {P : Program} {off : Nat} {f : Field} {d : Kd α} {ok : α → Prop} {m : Nat} (ho : f.offset = off) (h : OpensF P f.type d ok m) : Fields P off [f] d ok m :=
  ⟨by simp [h.1], fun H enc w base spare held n cs hm hl hf => by
    obtain ⟨x, hx⟩ := hf 0 f rfl
    rw [ho, h.1, List.take_of_length_le (by rw [List.length_drop]; omega)] at hx
    exact h.2 H enc w base spare held n _ x hm hx⟩

theorem Fields.cons {α β : Type} {P : Program} {off : Nat} {f : Field} {fs : List Field} {d : Kd α} {d2 : Kd β} {ok : α → Prop} {ok2 : β → Prop} {m : Nat} (ho : f.offset = off) (h : OpensF P f.type d ok m) (r : Fields P (off + d.sz) fs d2 ok2 m) :
    Fields P off (f :: fs) (Kd.pair d d2) (fun x => ok x.1 ∧ ok2 x.2) m :=
  ⟨by simp only [List.map_cons, List.sum_cons, h.1, r.1]; rfl, fun H enc w base spare held n cs hm hl hf => by
    obtain ⟨x, hx⟩ := hf 0 f rfl
    rw [ho, h.1] at hx
    obtain ⟨a, hk, hoa⟩ := h.2 H enc w base spare held n _ x hm hx
    have hl2 : cs.length = off + d.sz + d2.sz := by
      have : (Kd.pair d d2).sz = d.sz + d2.sz := rfl
      omega
    obtain ⟨b, hk2, hob⟩ := r.2 H enc w base spare held n cs hm hl2 (fun i g hg => hf (i + 1) g (by simpa using hg))
    refine ⟨(a, b), ⟨_, _, ?_, hk, hk2⟩, hoa, hob⟩
    rw [← List.drop_drop, List.take_append_drop]⟩

theorem OpensF.struct {α β : Type} {P : Program} {t : TypeId} {fs : Array Field} {d : Kd α} {ok : α → Prop} {m : Nat} (f : β → α) (g : α → β) (hfg : ∀ a, f (g a) = a) (ht : P.underlying t = some (.struct fs)) (hc : P.cellsOf t = d.sz) (h : Fields P 0 fs.toList d ok m) :
    OpensF P t (Kd.iso d f) (fun b => ok (f b)) (m + 1) :=
  ⟨hc, fun H enc w base spare held fuel cs x hm hx => by
    obtain ⟨xs, n, hfn, _, hl, hn, hall⟩ := DataW.trod_struct ht hx
    obtain ⟨a, hk, ho⟩ := h.2 H enc w base spare held n cs (by omega) (by omega) (fun i f hf => by
      have hf' : fs[i]? = some f := by simpa using hf
      have hi : i < xs.length := by
        have := (Array.getElem?_eq_some_iff.1 hf').1
        omega
      exact ⟨_, (hall i f hf').trans (List.getElem?_eq_getElem hi)⟩)
    refine ⟨g a, ?_, ?_⟩
    · show d.K w (f (g a)) cs
      rw [hfg]
      simpa using hk
    · show ok (f (g a))
      rw [hfg]
      exact ho⟩
theorem OpensF.zero {α : Type} {P : Program} {t : TypeId} {d : Kd α} {ok : α → Prop} (hc : P.cellsOf t = d.sz) : OpensF P t d ok 0 :=
  ⟨hc, fun H enc w base spare held fuel cs x hm hx => by
    obtain rfl : fuel = 0 := by omega
    simp [DataW.trod] at hx⟩
theorem OpensF.less {α : Type} {P : Program} {t : TypeId} {d : Kd α} {ok : α → Prop} {m : Nat} (h : OpensF P t d ok (m + 1)) : OpensF P t d ok m :=
  ⟨h.1, fun H enc w base spare held fuel cs x hm hx => h.2 H enc w base spare held fuel cs x (by omega) hx⟩
theorem Opens.struct {α β : Type} {P : Program} {t : TypeId} {fs : Array Field} {d : Kd α} {ok : α → Prop} (f : β → α) (g : α → β) (hfg : ∀ a, f (g a) = a) (ht : P.underlying t = some (.struct fs)) (hc : P.cellsOf t = d.sz) (h : ∀ m, Fields P 0 fs.toList d ok m) :
    Opens P t (Kd.iso d f) (fun b => ok (f b)) := fun m => (OpensF.struct f g hfg ht hc (h m)).less
/-- A type nested in itself: its rounds are the nesting's depth. -/
theorem Opens.fix {α : Type} {P : Program} {t : TypeId} (F : Kd α → Kd α) (sz : Nat) (E : List Nat) (hs : ∀ n, (Kd.upto F sz E n).sz = sz) (hE : ∀ n q, q ∈ (Kd.upto F sz E n).E → q ∈ E) (ok : Nat → α → Prop) (hc : P.cellsOf t = sz)
    (step : ∀ m (d : Kd α) (o : α → Prop), OpensF P t d o m → o = ok m → OpensF P t (F d) (ok (m + 1)) (m + 1)) : Opens P t (Kd.fix F sz E hs hE) (fun x => ∃ n, ok n x) := by
  intro m
  have key : ∀ m, OpensF P t (Kd.upto F sz E m) (ok m) m := by
    intro m
    induction m with
    | zero => exact OpensF.zero hc
    | succ m ih => exact step m _ _ ih rfl
  refine ⟨hc, fun H enc w base spare held fuel cs x hm hx => ?_⟩
  obtain ⟨a, hk, ho⟩ := (key m).2 H enc w base spare held fuel cs x hm hx
  exact ⟨a, ⟨m, hk⟩, m, ho⟩

end Go.Proofs.Ytbmgenifdlgbmaa.Open

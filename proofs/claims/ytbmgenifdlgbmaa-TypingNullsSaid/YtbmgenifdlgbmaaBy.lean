/- Texts as lists of numbers: cut, put together, compared, read at a place. -/
import Derived.Test.YtbmgenifdlgbmaaWWords
import Derived.Test.YtbmgenifdlgbmaaDig
import Derived.Lib.Bytes
namespace Go.Proofs.Ytbmgenifdlgbmaa.By
open Go Go.RowKit Go.Proofs.YtbmgenifdlgbmaaW.PrintWords

/-- a text's bytes, as numbers -/
abbrev B (s : ByteArray) : List Int := bytesOf s
theorem toList_loop (s : ByteArray) : ∀ (d i : Nat) (r : List UInt8), i + d = s.size → ByteArray.toList.loop s i r = r.reverse ++ s.data.toList.drop i := by
  intro d
  induction d with
  | zero =>
    intro i r h
    rw [ByteArray.toList.loop, if_neg (by omega), List.drop_of_length_le (by simpa using by have : s.data.size = s.size := rfl; omega), List.append_nil]
  | succ d ih =>
    intro i r h
    have hlt : i < s.size := by omega
    have hd : i < s.data.toList.length := by simpa using hlt
    rw [ByteArray.toList.loop, if_pos hlt, ih (i + 1) _ (by omega), List.drop_eq_getElem_cons hd]
    have e : s.get! i = s.data.toList[i] := by
      have : s.get! i = s.data[i]! := rfl
      rw [this]
      simp [getElem!_pos, hlt]
    rw [e]
    simp
theorem toList_data (s : ByteArray) : s.toList = s.data.toList := by
  have h := toList_loop s s.size 0 [] (by omega)
  simpa [ByteArray.toList] using h
theorem B_inj {s t : ByteArray} (h : B s = B t) : s = t := by
  have h2 : s.data.toList = t.data.toList := by
    have inj : ∀ (a b : List UInt8), a.map (fun b => (b.toNat : Int)) = b.map (fun b => (b.toNat : Int)) → a = b := by
      intro a
      induction a with
      | nil =>
        intro b hb
        cases b with
        | nil => rfl
        | cons y b => simp at hb
      | cons x a ih =>
        intro b hb
        cases b with
        | nil => simp at hb
        | cons y b =>
          simp only [List.map_cons, List.cons.injEq] at hb
          have : x = y := UInt8.toNat_inj.1 (by omega)
          rw [this, ih b hb.2]
    exact inj _ _ h
  cases s; cases t
  simp at h2
  rw [h2]
theorem toList_eq_iff {s t : ByteArray} : s.toList = t.toList ↔ s = t := by
  constructor
  · intro h
    rw [toList_data, toList_data] at h
    cases s; cases t
    simp at h
    rw [h]
  · intro h; rw [h]
theorem B_size (s : ByteArray) : (B s).length = s.size := bytesOf_length s
theorem B_append (s t : ByteArray) : B (s ++ t) = B s ++ B t := by
  simp [B, bytesOf]
theorem B_extract (s : ByteArray) (a b : Nat) : B (s.extract a b) = ((B s).take b).drop a := by
  simp only [B, bytesOf, ByteArray.data_extract]
  rw [Array.toList_extract, List.extract_eq_take_drop, List.map_take, List.map_drop, List.drop_take]
theorem bt_B (s : ByteArray) (i : Int) : bt s i = (B s).getD i.toNat 0 := (rd_bytesOf s i).symm
theorem B_range (s : ByteArray) : ∀ x ∈ B s, 0 ≤ x ∧ x ≤ 255 := by
  intro x hx
  simp only [B, bytesOf, List.mem_map] at hx
  obtain ⟨b, _, rfl⟩ := hx
  have := b.toNat_lt
  omega
theorem toList_nil_iff (s : ByteArray) : s.toList = [] ↔ B s = [] := by
  rw [toList_data]
  simp [B, bytesOf]
/-- a text of given bytes -/
theorem toList_lit (s : ByteArray) (l : List UInt8) : s.toList = l ↔ B s = l.map (fun b => (b.toNat : Int)) := by
  constructor
  · intro h
    rw [toList_data] at h
    simp [B, bytesOf, h]
  · intro h
    have : s = ⟨l.toArray⟩ := B_inj (by rw [h]; simp [B, bytesOf])
    rw [this, toList_data]
theorem B_ofNums {xs : List Int} (h : ∀ x ∈ xs, 0 ≤ x ∧ x ≤ 255) : B (strOfNums xs) = xs := by
  induction xs with
  | nil => rfl
  | cons a t ih =>
    have ht := ih (fun x hx => h x (List.mem_cons_of_mem _ hx))
    have ha := h a List.mem_cons_self
    have e : B (strOfNums (a :: t)) = ((a.toNat % 256 : Nat) : Int) :: B (strOfNums t) := by
      simp only [B, bytesOf, ← toList_data, Lib.strOfNums_toList]
      simp [Lib.bytesOf]
    rw [e, ht]
    congr 1
    omega
theorem strOfNums_B (s : ByteArray) : strOfNums (B s) = s := B_inj (B_ofNums (B_range s))
end Go.Proofs.Ytbmgenifdlgbmaa.By

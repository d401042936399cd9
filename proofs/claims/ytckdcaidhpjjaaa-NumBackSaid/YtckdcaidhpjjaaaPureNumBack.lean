/- A number comes back from its digits, a text that is read is that number's, sums and products do not ask for order, and what a quotient leaves makes the number again; no condition. -/
import Derived.Test.YtckdcaidhpjjaaaStNumBack
import Derived.Test.YtckdcaidhpjjaaaNumBack
namespace Go.Proofs.Ytckdcaidhpjjaaa.Pure
open Go Go.RowKit Go.Proofs.Ytckdcaidhpjjaaa.Q Go.Proofs.YtckdcaidhpjjaaaW.PrintWords Go.Proofs.Ytckdcaidhpjjaaa.Aux Go.Proofs.Ytckdcaidhpjjaaa.Num Go.Proofs.Ytckdcaidhpjjaaa.By Go.Proofs.Ytckdcaidhpjjaaa.Open

theorem quot_back {a b : Int} (ha : in64 a) (h : (over a b).2 = 0) : wrap64 (wrap64 ((over a b).1 * b) + (rest a b).1) = a := by
  unfold over at h ⊢
  by_cases hb : b = 0
  · rw [if_pos hb] at h
    exact absurd h (by decide)
  · rw [if_neg hb] at h ⊢
    by_cases hx : a = -9223372036854775808 ∧ b = -1
    · exfalso
      obtain ⟨rfl, rfl⟩ := hx
      revert h
      decide
    · have h1 := tdiv_in ha hb hx
      rw [res_in h1]
      unfold rest
      rw [if_neg hb, if_neg hx]
      have h2 := Int.tmod_add_mul_tdiv a b
      rw [Int.mul_comm b] at h2
      unfold in64 at ha
      simp only
      unfold wrap64
      omega
theorem over_rest {a b : Int} (ha : in64 a) : (over a b).2 = (rest a b).2 := by
  unfold over rest
  by_cases hb : b = 0
  · rw [if_pos hb, if_pos hb]
  · rw [if_neg hb, if_neg hb]
    by_cases hx : a = -9223372036854775808 ∧ b = -1
    · rw [if_pos hx]
      obtain ⟨rfl, rfl⟩ := hx
      rfl
    · rw [if_neg hx, res_in (tdiv_in ha hb hx)]
theorem back_j {a b : Int} (ha : in64 a) (hb : in64 b) : Ev (fun k => registrarlaw01_NumBack.j0 k a b false) true := by
  refine Ev.step (fun k => registrarlaw01_NumBack.j0.eq_2 ..) ?_
  refine ev_neg (by decide) ?_
  refine Ev.bind (times_f ha hb) ?_
  refine Ev.bind (times_f hb ha) ?_
  refine ev_one (plus_f ha hb) ?_
  refine ev_one (plus_f hb ha) ?_
  rw [Int.mul_comm b a, Int.add_comm b a]
  refine ev_pos rfl (ev_pos rfl (ev_pos rfl ?_))
  rw [show ((res (a + b)).2 != (res (a + b)).2) = false by simp]
  refine Ev.step (fun k => registrarlaw01_NumBack.j1.eq_2 ..) ?_
  refine ev_neg (by decide) ?_
  refine ev_one (over_f ha) ?_
  refine ev_one rest_f ?_
  refine ev_pos (over_rest ha) ?_
  by_cases h : (over a b).2 = 0
  · refine ev_pos h ?_
    refine ev_pos (quot_back ha h) ?_
    exact ev_one works_f (Ev.now _)
  · refine ev_neg h ?_
    exact ev_one works_f (Ev.now _)
theorem NumBack : registrarlaw01_NumBack.Pure := by
  intro a b s ha0 hb0 _
  have ha := in64_wf ha0
  have hb := in64_wf hb0
  refine Ev.rounds (g := fun k => registrarlaw01_NumBack.f k a b s) ?_
  unfold registrarlaw01_NumBack.f
  by_cases h : (s.size : Int) > 200
  · exact ev_pos h (ev_one works_f (Ev.now _))
  · refine ev_neg h ?_
    refine ev_one (digits_f ha) ?_
    have hr := read_f (strOfNums (X.digI a))
    rw [B_dig, read_dig ha] at hr
    refine Ev.bind hr ?_
    refine Ev.bind (read_f s) ?_
    refine ev_pos rfl (ev_pos rfl ?_)
    by_cases h0 : (readS (B s)).2 = 0
    · refine ev_pos h0 ?_
      obtain ⟨hm, hd⟩ := dig_read (l := B s) (m := (readS (B s)).1) (by rw [← h0])
      refine ev_one (digits_f hm) ?_
      rw [hd, strOfNums_B]
      rw [show (s.toList != s.toList) = false by simp]
      exact back_j ha hb
    · refine ev_neg h0 ?_
      exact back_j ha hb

end Go.Proofs.Ytckdcaidhpjjaaa.Pure

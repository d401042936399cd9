/- Words and contracts: a plain machine over the model, and what the functions that a law reaches come to, each for every input that its theorem names. -/
import Derived.Test.YtbmgenifdlgbmaaK3
import Derived.Test.YtbmgenifdlgbmaaV3
namespace Go.Proofs.Ytbmgenifdlgbmaa.D
set_option linter.unusedVariables false
set_option linter.unusedSimpArgs false
open Go Go.Proofs.Ytbmgenifdlgbmaa.D.Pm
set_option maxRecDepth 4000
theorem okR1 {L : Tab} {r : List AC} (h : okR RT0 L 1 r) : ∃ s, r = [.v (.string s)] := by
  cases h with | cons h1 r => obtain ⟨s, rfl⟩ := h1; cases r; exact ⟨s, rfl⟩
theorem okR2 {L : Tab} {r : List AC} (h : okR RT0 L 2 r) : ∃ s c, r = [.v (.string s), c] ∧ okc L (.L 1) c := by
  cases h with | cons h1 r => cases r with | cons h2 r => obtain ⟨s, rfl⟩ := h1; cases r; exact ⟨s, _, rfl, h2⟩
theorem okR3 {L : Tab} {r : List AC} (h : okR RT0 L 3 r) : ∃ s n b, r = [.v (.string s), .v (.int .i64 n), .v (.bool b)] := by
  cases h with | cons h1 r => cases r with | cons h2 r => cases r with | cons h3 r => obtain ⟨s, rfl⟩ := h1; obtain ⟨n, rfl⟩ := h2; obtain ⟨b, rfl⟩ := h3; cases r; exact ⟨s, n, b, rfl⟩
theorem okR7 {L : Tab} {r : List AC} (h : okR RT0 L 7 r) : ∃ n q, r = .v (.int .i64 n) :: q ∧ F2 (okc L) [.I, .I, .I, .S, .S, .L 7] q ∧ q.length = 6 := by
  cases h with | cons h1 r => obtain ⟨n, rfl⟩ := h1; exact ⟨n, _, rfl, r, r.len.symm⟩
theorem okR12 {L : Tab} {r : List AC} (h : okR RT0 L 12 r) : ∃ s n cA k1 k2 k3 k4 s1 s2 cK tb cR, r = [s, .v (.int .i64 n), cA, k1, k2, k3, k4, s1, s2, cK, tb, cR] ∧ okc L .S s ∧ okc L (.L 1) cA ∧ okc L (.L 7) cK ∧ F2 (okc L) [.I, .I, .I, .I, .S, .S, .L 7, .S, .L 1] [k1, k2, k3, k4, s1, s2, cK, tb, cR] := by
  cases h with | cons h1 r => cases r with | cons h2 r => cases r with | cons h3 r =>
    have hl := r.len
    obtain ⟨n, rfl⟩ := h2
    rename_i l3
    match l3, hl, r with
    | [k1, k2, k3, k4, s1, s2, cK, tb, cR], _, r =>
      have r0 := r
      cases r with | cons _ r => cases r with | cons _ r => cases r with | cons _ r => cases r with | cons _ r => cases r with | cons _ r => cases r with | cons _ r => cases r with | cons h4 r => exact ⟨_, n, _, k1, k2, k3, k4, s1, s2, cK, tb, cR, rfl, h1, h3, h4, r0⟩
theorem eqTb_refl (a : Tbl) : eqTb a a = true := by
  have hs : ∀ l : List ByteArray, eqL eqStr l l = true := fun l => eqL_refl fun x _ => by simp [eqStr]
  unfold eqTb
  rw [eqL_refl (fun c _ => by simp [eqCl]), eqL_refl (fun x _ => by unfold eqCon; rw [hs, hs, eqE_refl]; simp), eqL_refl (fun x _ => by unfold eqIx; rw [hs]; simp)]
  simp
set_option maxHeartbeats 4000000 in
theorem tableSame_law (a b : Tbl) (_ : wfT a) (_ : wfT b) : Is Try.prog 8 [.g (eT a), .g (eT b)] (vB true) := by
  refine Is.of TP Try.func8 rfl rfl (Nat.le_of_ble_eq_true rfl) fun st => Pw.of TP [3] ?_
  conv => whnf
  refine Is.callB (fewT_is a) fun q hq => ?_
  cases q <;> conv => whnf
  · refine works14_is.call ?_
    conv => whnf
    exact Fin.old rfl (.refl _)
  refine Is.callB (fewT_is b) fun q hq2 => ?_
  cases q <;> conv => whnf
  · refine works14_is.call ?_
    conv => whnf
    exact Fin.old rfl (.refl _)
  have oka := fewT_ok a hq
  have okb := fewT_ok b hq2
  refine Pw.of TP [5] ?_
  conv => whnf
  refine Does.mono (tclone_does a oka _) fun r s1 hc => ?_
  obtain ⟨Lc, xc, rfl, oc⟩ := hc
  have hx : xc.length = 6 := oc.fz.len
  obtain ⟨x1, x2, x3, x4, x5, x6, rfl⟩ : ∃ a b c d e f, xc = [a, b, c, d, e, f] := by
    match xc, hx with
    | [a, b, c, d, e, f], _ => exact ⟨a, b, c, d, e, f, rfl⟩
  conv => whnf
  refine Does.lendOwn (as' := [.g (eT a)]) (ts := [.S, .S, .I, .L 3, .L 12, .L 2]) (ys := eT a) (R := RT0) rfl (fun j r r' h1 h2 => ?_) (tclone_does a oka _) fun Ld xd s2 od => ?_
  · match j, h1, h2 with
    | 0, h1, h2 => cases h1; cases h2; exact .gl (F2.imp (fun _ _ hf => hf.mono (fun _ _ => rfl) fun _ _ _ h => h) oc.fz)
    | j + 1, h1, h2 => simp at h2
  have hx : xd.length = 6 := od.fz.len
  obtain ⟨z1, z2, z3, z4, z5, z6, rfl⟩ : ∃ a b c d e f, xd = [a, b, c, d, e, f] := by
    match xd, hx with
    | [a, b, c, d, e, f], _ => exact ⟨a, b, c, d, e, f, rfl⟩
  conv => whnf
  have hsame : Is Try.prog 41 [.g (eT a), .g (eT a)] (vB true) := (rsame14_is a a oka).eq (by rw [eqTb_refl])
  have tsame : Is Try.prog 40 [.g (eT a), .g (eT a)] (vB true) := (tsame_is a a oka).eq (by rw [eqTb_refl])
  have fc : ∀ y, Le s2 y → ∀ (j : Nat) (r r' : AV), [AV.g [x1, x2, x3, x4, x5, x6], AV.g (eT a)][j]? = some r → [AV.g (eT a), AV.g (eT a)][j]? = some r' → FV (fun _ => true) y r r' := fun y hy j r r' h1 h2 => by
    match j, h1, h2 with
    | 0, h1, h2 => cases h1; cases h2; exact .gl (F2.imp (fun _ _ hf => hf.mono (fun _ _ => rfl) fun i o _ h => hy i o (od.le i o h)) oc.fz)
    | 1, h1, h2 => cases h1; cases h2; exact .refl _
    | j + 2, h1, h2 => simp at h2
  refine Pw.cut (τ := Unit) [2, 5, 6] (fun _ => []) (fun _ => s2) (fun _ => True) (Pw.of TP [] ?_) fun _ _ => ?_
  · refine Pw.drw TP mixed (by kernel_rfl) ?_; conv => whnf
    refine Is.drawB (tsame_is a b oka) fun q hq => ?_
    conv => whnf
    refine Is.drawB (rsame14_is a b oka) fun q' hq' => ?_
    have e : q' = q := by rw [← hq, ← hq']
    subst e
    cases q' <;> conv => whnf
    all_goals refine ⟨vB true, fun st' hle => Is.lend hsame rfl (fc st' hle) ⟨rfl, rfl⟩, ?_⟩
    all_goals conv => whnf
    all_goals exact ⟨⟨rfl, rfl, rfl, trivial⟩, (), trivial, .refl _, trivial⟩
  have o3 : okc Lc (.L 3) x4 ∧ okc Lc (.L 12) x5 ∧ okc Lc (.L 2) x6 := by
    have h := oc.ok
    cases h with | cons _ h => cases h with | cons _ h => cases h with | cons _ h => cases h with | cons h4 h => cases h with | cons h5 h => cases h with | cons h6 h => exact ⟨h4, h5, h6⟩
  obtain ⟨o4, o5, o6⟩ := o3
  have I0 : LInv RT0 Lc s2 s2 := ⟨oc.ty.le od.le, fun _ _ => rfl⟩
  have fd : ∀ y, LInv RT0 Lc s2 y → ∀ (j : Nat) (r r' : AV), [AV.g [z1, z2, z3, z4, z5, z6], AV.g (eT a)][j]? = some r → [AV.g (eT a), AV.g (eT a)][j]? = some r' → FV (fun _ => true) y r r' := fun y hy j r r' h1 h2 => by
    match j, h1, h2 with
    | 0, h1, h2 =>
      cases h1; cases h2
      refine .gl (F2.imp (fun _ _ hf => hf.mono (fun _ _ => rfl) fun i o hd h => ?_) od.fz)
      rw [hy.old i ?_]; exact h
      unfold Tab.dom at hd
      cases hl : Ld i with
      | none => rw [hl] at hd; cases hd
      | some p =>
        cases hc : Lc i with
        | none => rfl
        | some p' => obtain ⟨ob, hob⟩ := oc.ty.some hc; rw [od.new i p hl] at hob; cases hob
    | 1, h1, h2 => cases h1; cases h2; exact .refl _
    | j + 2, h1, h2 => simp at h2
  clear fc hq hq2
  -- the columns
  refine Pw.cut (τ := Sto) [2, 5, 6] (fun _ => []) (fun y => y) (fun y => LInv RT0 Lc s2 y) (Pw.of TP [] ?_) fun y I0 => ?_
  · rcases o4 with rfl | ⟨id, n, rfl, hL⟩
    · conv => whnf
      refine Pw.rngS (τ := Unit) 7 0 (Nat.zero_le _) [2, 5, 6] (fun _ _ => []) (fun _ _ => s2) (fun _ _ => True) () rfl ⟨⟩ (.refl _) trivial fun i _ hi _ => Pw.of TP [] ?_
      conv => whnf
      refine ⟨fun h => absurd h (show ¬ (i : Int) < ((0 : Nat) : Int) by omega), fun _ => ?_⟩
      conv => whnf
      exact ⟨⟨rfl, rfl, rfl, trivial⟩, s2, trivial, .refl _, I0⟩
    · have hn : n ≤ Big := by
        have h := oc.fz
        cases h with | cons _ h => cases h with | cons _ h => cases h with | cons _ h => cases h with | cons h _ =>
          cases h with | arr _ _ _ _ rows ys hd hs hl hy hr h =>
            rw [List.length_map] at hy
            rw [← hy]; exact big12 oka.2.2.1.1
      conv => whnf
      refine Pw.rngS (τ := Sto) 7 n hn [2, 5, 6] (fun _ _ => []) (fun _ y => y) (fun i y => LInv RT0 Lc s2 y) s2 rfl ⟨⟩ (.refl _) I0 fun i y hi hI => Pw.of TP [] ?_
      conv => whnf
      refine ⟨fun h => ?_, fun h => ?_⟩ <;> conv => whnf
      · obtain ⟨rows, g1, g2, g3, g4⟩ := hI.row hL
        obtain ⟨r, r1, r2, r3⟩ := g4 i (by omega)
        obtain ⟨s, m, b, rfl⟩ := okR3 r3
        have r1' : rows[0 + ((i : Nat) : Int).toNat]? = some [.v (.string s), .v (.int .i64 m), .v (.bool b)] := by rw [Nat.zero_add, Int.toNat_natCast]; exact r1
        refine ⟨by omega, by omega, ⟨_, g1⟩, ?_⟩
        conv => whnf
        refine ⟨_, _, _, g1, r1', ?_⟩
        conv => whnf
        refine ⟨by omega, by omega, ⟨_, g1⟩, ?_⟩
        conv => whnf
        refine ⟨_, _, _, g1, r1', Nat.le_of_ble_eq_true rfl, ?_⟩
        conv => whnf
        exact ⟨by omega, rfl, ⟨rfl, rfl, rfl, trivial⟩, _, trivial, .refl _, hI.set hL g1 ⟨rfl, .cons ⟨_, rfl⟩ (.cons ⟨_, rfl⟩ (.cons ⟨_, rfl⟩ .nil))⟩⟩
      · exact ⟨⟨rfl, rfl, rfl, trivial⟩, y, trivial, .refl _, hI⟩
  -- the constraints
  refine Pw.cut (τ := Sto) [2, 5, 6] (fun _ => []) (fun y => y) (fun y => LInv RT0 Lc s2 y) (Pw.of TP [] ?_) fun y I0 => ?_
  · rcases o5 with rfl | ⟨id, n, rfl, hL⟩
    · conv => whnf
      refine Pw.rngS (τ := Unit) 8 0 (Nat.zero_le _) [2, 5, 6] (fun _ _ => []) (fun _ _ => y) (fun _ _ => True) () rfl ⟨⟩ (.refl _) trivial fun i _ hi _ => Pw.of TP [] ?_
      conv => whnf
      refine ⟨fun h => absurd h (show ¬ (i : Int) < ((0 : Nat) : Int) by omega), fun _ => ?_⟩
      conv => whnf
      exact ⟨⟨rfl, rfl, rfl, trivial⟩, y, trivial, .refl _, I0⟩
    · have hn : n ≤ Big := by
        have h := oc.fz
        cases h with | cons _ h => cases h with | cons _ h => cases h with | cons _ h => cases h with | cons _ h => cases h with | cons h _ =>
          cases h with | arr _ _ _ _ rows ys hd hs hl hy hr h =>
            rw [List.length_map] at hy
            rw [← hy]; exact big12 oka.2.2.2.1.1
      conv => whnf
      refine Pw.rngS (τ := Sto) 8 n hn [2, 5, 6] (fun _ _ => []) (fun _ y => y) (fun i y => LInv RT0 Lc s2 y) y rfl ⟨⟩ (.refl _) I0 fun i y hi hI => Pw.of TP [15, 19] ?_
      conv => whnf
      refine ⟨fun h => ?_, fun h => ?_⟩ <;> conv => whnf
      rotate_left
      · exact ⟨⟨rfl, rfl, rfl, trivial⟩, y, trivial, .refl _, hI⟩
      have hi' : i < n := by omega
      obtain ⟨rows, g1, g2, g3, g4⟩ := hI.row hL
      obtain ⟨r, r1, r2, r3⟩ := g4 i hi'
      obtain ⟨s, m, cA, k1, k2, k3, k4, t1, t2, cK, tb, cR, rfl, q1, qA, qK, qr⟩ := okR12 r3
      have r1' : rows[0 + ((i : Nat) : Int).toNat]? = some [s, .v (.int .i64 m), cA, k1, k2, k3, k4, t1, t2, cK, tb, cR] := by rw [Nat.zero_add, Int.toNat_natCast]; exact r1
      refine ⟨by omega, by omega, ⟨_, g1⟩, ?_⟩
      conv => whnf
      refine ⟨_, _, _, g1, r1', ?_⟩
      conv => whnf
      refine ⟨by omega, by omega, ⟨_, g1⟩, ?_⟩
      conv => whnf
      refine ⟨_, _, _, g1, r1', Nat.le_of_ble_eq_true rfl, ?_⟩
      conv => whnf
      refine Pw.gen fun y1 e1 => ?_
      obtain ⟨rows1, hr1⟩ : ∃ rows1, rows1 = rows.set (0 + ((i : Nat) : Int).toNat) [s, .v (.int .i64 (IntKind.i64.wrap (m + 1))), cA, k1, k2, k3, k4, t1, t2, cK, tb, cR] := ⟨_, rfl⟩
      have I1 : LInv RT0 Lc s2 y1 := by rw [e1]; exact hI.set hL g1 ⟨rfl, .cons q1 (.cons ⟨_, rfl⟩ (.cons qA qr))⟩
      have g1' : y1 id = some (.ar 12 rows1) := by rw [e1, hr1]; exact upd_same _ _ _
      have w1 : rows1[0 + ((i : Nat) : Int).toNat]? = some [s, .v (.int .i64 (IntKind.i64.wrap (m + 1))), cA, k1, k2, k3, k4, t1, t2, cK, tb, cR] := by rw [hr1]; exact set_at r1'
      have w2 : ∀ q ∈ rows1, q.length = 12 := fun q hq => by
        rw [hr1] at hq
        rcases List.mem_or_eq_of_mem_set hq with hq | hq
        · exact g3 q hq
        · rw [hq]; rfl
      clear e1 hr1 r1 r1' g1 g2 g3 g4 hI
      -- its columns
      refine Pw.cut (τ := Sto) [2, 5, 6, 8] (fun _ => []) (fun y => y) (fun y => LInv RT0 Lc s2 y ∧ y id = some (.ar 12 rows1)) ?_ fun y2 J => ?_
      · rcases qA with rfl | ⟨id2, n2, rfl, hL2⟩
        · refine Pw.of TP [] ?_
          conv => whnf
          refine Pw.rngS (τ := Unit) 9 0 (Nat.zero_le _) [2, 5, 6, 8] (fun _ _ => []) (fun _ _ => y1) (fun _ _ => True) () rfl ⟨⟩ (.refl _) trivial fun j _ hj _ => Pw.of TP [] ?_
          conv => whnf
          refine ⟨by omega, by omega, ⟨_, g1'⟩, ?_⟩
          conv => whnf
          refine ⟨_, _, _, g1', w1, ?_⟩
          conv => whnf
          refine ⟨fun h => absurd h (show ¬ (j : Int) < ((0 : Nat) : Int) by omega), fun _ => ?_⟩
          conv => whnf
          exact ⟨⟨rfl, rfl, rfl, rfl, trivial⟩, y1, trivial, .refl _, I1, g1'⟩
        · have hne : id2 ≠ id := fun e => by rw [e, hL] at hL2; cases hL2
          refine Pw.lenRow g1' w2 w1 (j := 2) rfl fun hm2 => Pw.of TP [] ?_
          conv => whnf
          refine Pw.rngL (τ := Sto) 9 n2 hm2 [2, 5, 6, 8] (fun _ _ => []) (fun _ y => y) (fun _ y => LInv RT0 Lc s2 y ∧ y id = some (.ar 12 rows1)) y1 rfl ⟨⟩ (.refl _) ⟨I1, g1'⟩ fun j y hj ⟨hI, g1⟩ => Pw.of TP [] ?_
          conv => whnf
          refine ⟨by omega, by omega, ⟨_, g1⟩, ?_⟩
          conv => whnf
          refine ⟨_, _, _, g1, w1, ?_⟩
          conv => whnf
          refine ⟨fun h => ?_, fun h => ?_⟩ <;> conv => whnf
          · obtain ⟨rows2, v1, v2, v3, v4⟩ := hI.row hL2
            obtain ⟨r, r1, r2, r3⟩ := v4 j (by omega)
            obtain ⟨s, rfl⟩ := okR1 r3
            have r1' : rows2[0 + ((j : Nat) : Int).toNat]? = some [.v (.string s)] := by rw [Nat.zero_add, Int.toNat_natCast]; exact r1
            refine ⟨by omega, by omega, ⟨_, g1⟩, ?_⟩
            conv => whnf
            refine ⟨_, _, _, g1, w1, ?_⟩
            conv => whnf
            refine ⟨by omega, by omega, ⟨_, v1⟩, ?_⟩
            conv => whnf
            refine ⟨_, _, _, v1, r1', Nat.le_of_ble_eq_true rfl, ?_⟩
            conv => whnf
            exact ⟨by omega, rfl, ⟨rfl, rfl, rfl, rfl, trivial⟩, _, trivial, .refl _, hI.set hL2 v1 ⟨rfl, .cons ⟨_, rfl⟩ .nil⟩, (upd_ne _ hne.symm).trans g1⟩
          · exact ⟨⟨rfl, rfl, rfl, rfl, trivial⟩, y, trivial, .refl _, hI, g1⟩
      obtain ⟨I2, g2'⟩ := J
      -- its kids
      rcases qK with rfl | ⟨id2, n2, rfl, hL2⟩
      · refine Pw.of TP [] ?_
        conv => whnf
        refine Pw.rngS (τ := Unit) 10 0 (Nat.zero_le _) [2, 5, 6, 8] (fun _ _ => []) (fun _ _ => y2) (fun _ _ => True) () rfl ⟨⟩ (.refl _) trivial fun j _ hj _ => Pw.of TP [] ?_
        conv => whnf
        refine ⟨by omega, by omega, ⟨_, g2'⟩, ?_⟩
        conv => whnf
        refine ⟨_, _, _, g2', w1, ?_⟩
        conv => whnf
        refine ⟨fun h => absurd h (show ¬ (j : Int) < ((0 : Nat) : Int) by omega), fun _ => ?_⟩
        conv => whnf
        exact ⟨hi', rfl, ⟨rfl, rfl, rfl, trivial⟩, y2, trivial, .refl _, I2⟩
      · have hne : id2 ≠ id := fun e => by rw [e, hL] at hL2; cases hL2
        refine Pw.lenRow g2' w2 w1 (j := 9) rfl fun hm2 => Pw.of TP [] ?_
        conv => whnf
        refine Pw.rngL (τ := Sto) 10 n2 hm2 [2, 5, 6, 8] (fun _ _ => []) (fun _ y => y) (fun _ y => LInv RT0 Lc s2 y ∧ y id = some (.ar 12 rows1)) y2 rfl ⟨⟩ (.refl _) ⟨I2, g2'⟩ fun j y hj ⟨hI, g1⟩ => Pw.of TP [] ?_
        conv => whnf
        refine ⟨by omega, by omega, ⟨_, g1⟩, ?_⟩
        conv => whnf
        refine ⟨_, _, _, g1, w1, ?_⟩
        conv => whnf
        refine ⟨fun h => ?_, fun h => ?_⟩ <;> conv => whnf
        · obtain ⟨rows2, v1, v2, v3, v4⟩ := hI.row hL2
          obtain ⟨r, r1, r2, r3⟩ := v4 j (by omega)
          obtain ⟨m2, q, rfl, qf, ql⟩ := okR7 r3
          have r1' : rows2[0 + ((j : Nat) : Int).toNat]? = some (.v (.int .i64 m2) :: q) := by rw [Nat.zero_add, Int.toNat_natCast]; exact r1
          refine ⟨by omega, by omega, ⟨_, g1⟩, ?_⟩
          conv => whnf
          refine ⟨_, _, _, g1, w1, ?_⟩
          conv => whnf
          refine ⟨by omega, by omega, ⟨_, v1⟩, ?_⟩
          conv => whnf
          refine ⟨_, _, _, v1, r1', ?_⟩
          conv => whnf
          refine ⟨by omega, by omega, ⟨_, v1⟩, ?_⟩
          conv => whnf
          refine ⟨_, _, _, v1, r1', (by show 0 + 0 + 1 ≤ q.length + 1; omega), ?_⟩
          conv => whnf
          refine ⟨by omega, rfl, ⟨rfl, rfl, rfl, rfl, trivial⟩, _, trivial, .refl _, hI.set hL2 v1 ⟨(by show q.length + 1 = 7; omega), .cons ⟨_, rfl⟩ qf⟩, (upd_ne _ hne.symm).trans g1⟩
        · exact ⟨hi', rfl, ⟨rfl, rfl, rfl, trivial⟩, y, trivial, .refl _, hI⟩
  -- the indexes
  refine Pw.cut (τ := Sto) [2, 5, 6] (fun _ => []) (fun y => y) (fun y => LInv RT0 Lc s2 y) (Pw.of TP [] ?_) fun y I0 => Pw.of TP [] ?_
  · rcases o6 with rfl | ⟨id, n, rfl, hL⟩
    · conv => whnf
      refine Pw.rngS (τ := Unit) 11 0 (Nat.zero_le _) [2, 5, 6] (fun _ _ => []) (fun _ _ => y) (fun _ _ => True) () rfl ⟨⟩ (.refl _) trivial fun i _ hi _ => Pw.of TP [] ?_
      conv => whnf
      refine ⟨fun h => absurd h (show ¬ (i : Int) < ((0 : Nat) : Int) by omega), fun _ => ?_⟩
      conv => whnf
      exact ⟨⟨rfl, rfl, rfl, trivial⟩, y, trivial, .refl _, I0⟩
    · have hn : n ≤ Big := by
        have h := oc.fz
        cases h with | cons _ h => cases h with | cons _ h => cases h with | cons _ h => cases h with | cons _ h => cases h with | cons _ h => cases h with | cons h _ =>
          cases h with | arr _ _ _ _ rows ys hd hs hl hy hr h =>
            rw [List.length_map] at hy
            rw [← hy]; exact big12 oka.2.2.2.2.1
      conv => whnf
      refine Pw.rngS (τ := Sto) 11 n hn [2, 5, 6] (fun _ _ => []) (fun _ y => y) (fun i y => LInv RT0 Lc s2 y) y rfl ⟨⟩ (.refl _) I0 fun i y hi hI => Pw.of TP [26] ?_
      conv => whnf
      refine ⟨fun h => ?_, fun h => ?_⟩ <;> conv => whnf
      rotate_left
      · exact ⟨⟨rfl, rfl, rfl, trivial⟩, y, trivial, .refl _, hI⟩
      have hi' : i < n := by omega
      obtain ⟨rows, g1, g2, g3, g4⟩ := hI.row hL
      obtain ⟨r, r1, r2, r3⟩ := g4 i hi'
      obtain ⟨s, cA, rfl, qA⟩ := okR2 r3
      have w1 : rows[0 + ((i : Nat) : Int).toNat]? = some [.v (.string s), cA] := by rw [Nat.zero_add, Int.toNat_natCast]; exact r1
      rcases qA with rfl | ⟨id2, n2, rfl, hL2⟩
      · refine Pw.of TP [] ?_
        conv => whnf
        refine Pw.rngS (τ := Unit) 12 0 (Nat.zero_le _) [2, 5, 6, 11] (fun _ _ => []) (fun _ _ => y) (fun _ _ => True) () rfl ⟨⟩ (.refl _) trivial fun j _ hj _ => Pw.of TP [] ?_
        conv => whnf
        refine ⟨by omega, by omega, ⟨_, g1⟩, ?_⟩
        conv => whnf
        refine ⟨_, _, _, g1, w1, ?_⟩
        conv => whnf
        refine ⟨fun h => absurd h (show ¬ (j : Int) < ((0 : Nat) : Int) by omega), fun _ => ?_⟩
        conv => whnf
        exact ⟨hi', rfl, ⟨rfl, rfl, rfl, trivial⟩, y, trivial, .refl _, hI⟩
      · have hne : id2 ≠ id := fun e => by rw [e, hL] at hL2; cases hL2
        refine Pw.lenRow g1 g3 w1 (j := 1) rfl fun hm2 => Pw.of TP [] ?_
        conv => whnf
        refine Pw.rngL (τ := Sto) 12 n2 hm2 [2, 5, 6, 11] (fun _ _ => []) (fun _ y => y) (fun _ y => LInv RT0 Lc s2 y ∧ y id = some (.ar 2 rows)) y rfl ⟨⟩ (.refl _) ⟨hI, g1⟩ fun j y hj ⟨hI, g1⟩ => Pw.of TP [] ?_
        conv => whnf
        refine ⟨by omega, by omega, ⟨_, g1⟩, ?_⟩
        conv => whnf
        refine ⟨_, _, _, g1, w1, ?_⟩
        conv => whnf
        refine ⟨fun h => ?_, fun h => ?_⟩ <;> conv => whnf
        · obtain ⟨rows2, v1, v2, v3, v4⟩ := hI.row hL2
          obtain ⟨r, r1, r2, r3⟩ := v4 j (by omega)
          obtain ⟨s, rfl⟩ := okR1 r3
          have r1' : rows2[0 + ((j : Nat) : Int).toNat]? = some [.v (.string s)] := by rw [Nat.zero_add, Int.toNat_natCast]; exact r1
          refine ⟨by omega, by omega, ⟨_, g1⟩, ?_⟩
          conv => whnf
          refine ⟨_, _, _, g1, w1, ?_⟩
          conv => whnf
          refine ⟨by omega, by omega, ⟨_, v1⟩, ?_⟩
          conv => whnf
          refine ⟨_, _, _, v1, r1', Nat.le_of_ble_eq_true rfl, ?_⟩
          conv => whnf
          exact ⟨by omega, rfl, ⟨rfl, rfl, rfl, rfl, trivial⟩, _, trivial, .refl _, hI.set hL2 v1 ⟨rfl, .cons ⟨_, rfl⟩ .nil⟩, (upd_ne _ hne.symm).trans g1⟩
        · exact ⟨hi', rfl, ⟨rfl, rfl, rfl, trivial⟩, y, trivial, .refl _, hI⟩
  conv => whnf
  refine Is.lend hsame rfl (fd y I0) ?_
  conv => whnf
  refine Is.lend tsame rfl (fd y I0) ?_
  conv => whnf
  refine works14_is.call ?_
  conv => whnf
  refine Fin.same rfl (st0 := st) (fun i o h => ?_) ⟨rfl, rfl⟩
  have hn : Lc i = none := by
    cases hc : Lc i with
    | none => rfl
    | some p => rw [oc.new i p hc] at h; cases h
  rw [I0.old i hn]
  exact od.le i o (oc.le i o h)
end Go.Proofs.Ytbmgenifdlgbmaa.D

/- do: a call on a network and on the reference. -/
import Derived.Test.YtiindnmelegkgaaD3
namespace Go.Proofs.Ytiindnmelegkgaa
open Go.RowKit Go.Shelf
set_option linter.unusedSimpArgs false
set_option linter.unusedVariables false

/-- What do hands back. -/
def DoOut (H : Hold) (w0 : World) (kept : List (Nat × Obj)) (i : Nat) (e : Ending) (w' : World) : Prop :=
  ∃ (p' : Nat) (A' : Abs) (RN' : RNet), e = .returned (.tuple #[.pointer (some ⟨p', 0, none⟩), RN'.val, .bool true]) ∧ Pair A' RN'.abs (i + 2) ∧ PS H w0 p' A' RN' kept w'
/-- Behind the switch of do. -/
def DRel (H : Hold) (w0 : World) (p s i : Nat) (KK : List (Nat × Obj)) (s9 s11 s12 : Value) (wx : World) : Prop :=
  ∃ (er : Int) (A' : Abs) (RN' : RNet), s9 = .int .i64 er ∧ s11 = .int .i64 er ∧ s12 = .bool true ∧ Pair A' RN'.abs (i + 2) ∧ PS H w0 p A' RN' ((s + 3, .cells #[RN'.va, RN'.vh, RN'.ve, RN'.vb] 64 (0, 0)) :: KK) wx
def Z64 : Obj := .cells #[.slice none 0 0, .slice none 0 0, .slice none 0 0, .slice none 0 0] 64 (0, 0)
/-- The worlds of a region with a call that lays memory, and a store of a network behind it. -/
def twoB (X : World) (B : Nat) (c0 c1 c2 c3 : Value) (k : Nat) (ww : World) : Prop :=
  match k with
  | 0 => ww = X
  | 1 => Below X.heap.size X ww
  | _ => ∃ w1, Below X.heap.size X w1 ∧ ww = (((w1.setCell ⟨B, 0, none⟩ c0).setCell ⟨B, 1, none⟩ c1).setCell ⟨B, 2, none⟩ c2).setCell ⟨B, 3, none⟩ c3
theorem twoB_lt {X : World} {B : Nat} {c0 c1 c2 c3 : Value} {k : Nat} {ww : World} (hk : k < 2) (h : twoB X B c0 c1 c2 c3 k ww) : Below X.heap.size X ww := by
  match k, hk with
  | 0, _ => obtain rfl : ww = X := h
            exact Below.refl _ _
  | 1, _ => exact h

set_option maxHeartbeats 16000000 in
set_option maxRecDepth 100000 in
theorem do_ok {H : Hold} {w0 w : World} {p : Nat} {A : Abs} {RN : RNet} {kept : List (Nat × Obj)} {i : Nat} (h : PS H w0 p A RN kept w) (P : Pair A RN.abs i) (hi : i ≤ 100000) (x : ActA) (hx : ActOk w0 x) (hf : x.few = true) :
    Calls Try.prog 24 #[.pointer (some ⟨p, 0, none⟩), RN.val, x.val] w (DoOut H w0 kept i) := by
  have S := P.rsmall (by omega)
  have T := P.cons.tiny (by omega)
  have hlt : RN.all.length < 1000000 := by
    have h1 : RN.abs.all.length = A.next := P.sim.next.symm
    have h2 := P.cons.next
    rw [abs_len] at h1
    omega
  have hl100 : x.p.bs.length ≤ 100 := by simp only [ActA.few, Bool.and_eq_true, decide_eq_true_eq] at hf; exact hf.2
  obtain ⟨⟨a1, n1, k1, ha1⟩, ⟨a2, n2, k2, ha2⟩, ⟨a3, n3, k3, ha3⟩, ⟨a4, n4, k4, ha4⟩⟩ := h.rok.forms
  have HVAL : Hid (RN.val = .agg #[.slice a1 n1 k1, .slice a2 n2 k2, .slice a3 n3 k3, .slice a4 n4 k4]) := Lib.hid (by unfold RNet.val; rw [ha1, ha2, ha3, ha4])
  obtain ⟨ba, bc, hbv⟩ := hx.sl
  obtain ⟨bn, hbn⟩ : ∃ bn, x.p.bs.length = bn := ⟨_, rfl⟩
  rw [hbn] at hbv
  obtain ⟨s, hs⟩ : ∃ s, w.heap.size = s := ⟨_, rfl⟩
  obtain ⟨wh, hwh⟩ : ∃ wh, x.what = wh := ⟨_, rfl⟩
  have h1 := ((((h.box (.cells #[.slice a1 n1 k1, .slice a2 n2 k2, .slice a3 n3 k3, .slice a4 n4 k4] 64)).box (.cells #[.int .i64 wh, .int .i64 x.id, .int .i64 x.off, .int .u8 x.m, .string x.p.frm, .string x.p.to, .slice ba bn bc] 42)).box (.cells #[.slice none 0 0, .slice none 0 0, .slice none 0 0, .slice none 0 0] 64)).box (.cells #[.slice a1 n1 k1, .slice a2 n2 k2, .slice a3 n3 k3, .slice a4 n4 k4] 64))
  obtain ⟨W0, hW0⟩ : ∃ W0, W0 = (((w.alloc (.cells #[.slice a1 n1 k1, .slice a2 n2 k2, .slice a3 n3 k3, .slice a4 n4 k4] 64)).alloc (.cells #[.int .i64 wh, .int .i64 x.id, .int .i64 x.off, .int .u8 x.m, .string x.p.frm, .string x.p.to, .slice ba bn bc] 42)).alloc (.cells #[.slice none 0 0, .slice none 0 0, .slice none 0 0, .slice none 0 0] 64)).alloc (.cells #[.slice a1 n1 k1, .slice a2 n2 k2, .slice a3 n3 k3, .slice a4 n4 k4] 64) := ⟨_, rfl⟩
  rw [← hW0] at h1
  simp only [World.size_alloc, hs] at h1
  obtain ⟨KK, hKK⟩ : ∃ KK, KK = ((s + 2, Obj.cells #[.slice none 0 0, .slice none 0 0, .slice none 0 0, .slice none 0 0] 64 (0, 0)) :: (s + 1, .cells #[.int .i64 wh, .int .i64 x.id, .int .i64 x.off, .int .u8 x.m, .string x.p.frm, .string x.p.to, .slice ba bn bc] 42 (0, 0)) :: (s, .cells #[.slice a1 n1 k1, .slice a2 n2 k2, .slice a3 n3 k3, .slice a4 n4 k4] 64 (0, 0)) :: kept) := ⟨_, rfl⟩
  have h4 : PS H w0 p A RN ((s + 3, .cells #[.slice a1 n1 k1, .slice a2 n2 k2, .slice a3 n3 k3, .slice a4 n4 k4] 64 (0, 0)) :: KK) W0 := by rw [hKK]; exact h1
  have hw0s : w0.heap.size ≤ s := by rw [← hs]; exact h.lower.size
  have NK : Hid (∀ y ∈ kept, y.1 < s) := Lib.hid fun y hy => by have := (Array.getElem?_eq_some_iff.1 (h.at_ hy)).1; omega
  have NE : Hid (∀ y ∈ KK, y.1 ≠ s + 3) := Lib.hid fun y hy => by
    rw [hKK] at hy
    simp only [List.mem_cons] at hy
    rcases hy with rfl | rfl | rfl | hy
    · show s + 2 ≠ s + 3; omega
    · show s + 1 ≠ s + 3; omega
    · show s ≠ s + 3; omega
    · have := NK.out y hy; omega
  have ACTC : Hid (∀ AA NN ob ww, PS H w0 p AA NN (ob ++ KK) ww → ww.cell? ⟨s + 1, 0, none⟩ = some (.int .i64 wh) ∧ ww.cell? ⟨s + 1, 1, none⟩ = some (.int .i64 x.id) ∧ ww.cell? ⟨s + 1, 2, none⟩ = some (.int .i64 x.off) ∧ ww.cell? ⟨s + 1, 3, none⟩ = some (.int .u8 x.m) ∧ ww.cell? ⟨s + 1, 4, none⟩ = some (.string x.p.frm) ∧ ww.cell? ⟨s + 1, 5, none⟩ = some (.string x.p.to) ∧ ww.cell? ⟨s + 1, 6, none⟩ = some (.slice ba bn bc)) := Lib.hid fun AA NN ob ww hww => by
    have y := hww.at_ (x := (s + 1, .cells #[.int .i64 wh, .int .i64 x.id, .int .i64 x.off, .int .u8 x.m, .string x.p.frm, .string x.p.to, .slice ba bn bc] 42 (0, 0))) (by rw [hKK]; simp)
    dsimp only at y
    exact ⟨by rw [cell_of_row _ _ _ _ _ _ y]; rfl, by rw [cell_of_row _ _ _ _ _ _ y]; rfl, by rw [cell_of_row _ _ _ _ _ _ y]; rfl, by rw [cell_of_row _ _ _ _ _ _ y]; rfl, by rw [cell_of_row _ _ _ _ _ _ y]; rfl, by rw [cell_of_row _ _ _ _ _ _ y]; rfl, by rw [cell_of_row _ _ _ _ _ _ y]; rfl⟩
  have REFC : Hid (∀ AA NN ob ww, PS H w0 p AA NN (ob ++ KK) ww → ww.cell? ⟨s, 0, none⟩ = some (.slice a1 n1 k1) ∧ ww.cell? ⟨s, 1, none⟩ = some (.slice a2 n2 k2) ∧ ww.cell? ⟨s, 2, none⟩ = some (.slice a3 n3 k3) ∧ ww.cell? ⟨s, 3, none⟩ = some (.slice a4 n4 k4)) := Lib.hid fun AA NN ob ww hww => by
    have y := hww.at_ (x := (s, .cells #[.slice a1 n1 k1, .slice a2 n2 k2, .slice a3 n3 k3, .slice a4 n4 k4] 64 (0, 0))) (by rw [hKK]; simp)
    dsimp only at y
    exact ⟨by rw [cell_of_row _ _ _ _ _ _ y]; rfl, by rw [cell_of_row _ _ _ _ _ _ y]; rfl, by rw [cell_of_row _ _ _ _ _ _ y]; rfl, by rw [cell_of_row _ _ _ _ _ _ y]; rfl⟩
  have FIN0 : Hid (∀ AA W3 RN', PS H w0 p AA RN' ((s + 3, .cells #[.slice a1 n1 k1, .slice a2 n2 k2, .slice a3 n3 k3, .slice a4 n4 k4] 64 (0, 0)) :: KK) W3 → Pair AA RN'.abs (i + 2) → ∀ er : Int, DRel H w0 p s i KK (.int .i64 er) (.int .i64 er) (.bool true) ((((W3.setCell ⟨s + 3, 0, none⟩ RN'.va).setCell ⟨s + 3, 1, none⟩ RN'.vh).setCell ⟨s + 3, 2, none⟩ RN'.ve).setCell ⟨s + 3, 3, none⟩ RN'.vb)) := Lib.hid fun AA W3 RN' h1 h2 er =>
    ⟨er, AA, RN', rfl, rfl, rfl, h2, h1.put4 (by omega) NE.out _ _ _ _⟩
  have HX := Lib.hid hx
  have HF := Lib.hid hf
  have HP := Lib.hid P
  have HT := Lib.hid T
  have HBV := Lib.hid hbv
  have HBN := Lib.hid hbn
  have H4 := Lib.hid h4
  have HW0 := Lib.hid hW0
  have HS := Lib.hid hs
  have HKK := Lib.hid hKK
  have HSM := Lib.hid S
  have HWH := Lib.hid hwh
  have HXV : Hid (x.val = .agg #[.int .i64 wh, .int .i64 x.id, .int .i64 x.off, .int .u8 x.m, .string x.p.frm, .string x.p.to, .slice ba bn bc]) := Lib.hid (by unfold ActA.val; rw [hbv, hwh])
  clear h h1 h4 P T S hx hf ha1 ha2 ha3 ha4 hbv hbn hs hW0 hKK hwh
  rw [HXV.out, HVAL.out]
  go_enter Try.func24, Try.ntmps24
  have ac0 := (ACTC.out _ _ [_] _ H4.out).1
  rw [HW0.out] at ac0
  rw [← HS.out] at ac0
  go_upto_block 0 with fail
  rw [← HW0.out, HS.out]
  clear ac0
  go_cut [9, 11, 12] from 13 to 174 (fun s9 s11 s12 wx => DRel H w0 p s i KK s9 s11 s12 wx)
  case first =>
    obtain ⟨c0, c1, c2, c3, c4, c5, c6⟩ := ACTC.out _ _ [_] _ H4.out
    obtain ⟨r0, r1, r2, r3⟩ := REFC.out _ _ [_] _ H4.out
    by_cases h0 : wh = 0
    · subst h0
      have CL := Lib.hid (launch_ok H4.out HP.out hi x HX.out HF.out)
      rw [HVAL.out, HXV.out] at CL
      go_wp2_with fail
      refine CL.out.mono ?_
      rintro e W3 ⟨RN', rfl, hab, hP3⟩
      obtain ⟨⟨q1a, q1n, q1c, e1⟩, ⟨q2a, q2n, q2c, e2⟩, ⟨q3a, q3n, q3c, e3⟩, ⟨q4a, q4n, q4c, e4⟩⟩ := hP3.rok.forms
      have hv : RN'.val = .agg #[.slice q1a q1n q1c, .slice q2a q2n q2c, .slice q3a q3n q3c, .slice q4a q4n q4c] := by unfold RNet.val; rw [e1, e2, e3, e4]
      have FI := FIN0.out _ W3 RN' hP3 (by rw [hab]; exact (HP.out.launch x HX.out.byt).2) 0
      rw [e1, e2, e3, e4] at FI
      have y3 := hP3.at_ (List.mem_cons_self ..)
      dsimp only at y3
      have g0 := frozen_blk (g := s + 1 + 1 + 1) y3 0
      have g1 := frozen_blk (g := s + 1 + 1 + 1) y3 1
      have g2 := frozen_blk (g := s + 1 + 1 + 1) y3 2
      have g3 := frozen_blk (g := s + 1 + 1 + 1) y3 3
      obtain ⟨t0, t1, t2, t3, -⟩ := cells4 (b := s + 1 + 1 + 1) y3
      have HFI := Lib.hid FI
      rw [hv]
      clear FI y3 e1 e2 e3 e4 hv hab hP3 c0 c1 c2 c3 c4 c5 c6 r0 r1 r2 r3 CL
      go_wp2_with fail
      go_meet
      exact HFI.out
    by_cases h1 : wh = 1
    · subst h1
      have CL := Lib.hid (launch_ok H4.out HP.out hi x HX.out HF.out)
      rw [HVAL.out, HXV.out] at CL
      go_wp2_with fail
      refine CL.out.mono ?_
      rintro e W3 ⟨RN', rfl, hab, hP3⟩
      obtain ⟨⟨q1a, q1n, q1c, e1⟩, ⟨q2a, q2n, q2c, e2⟩, ⟨q3a, q3n, q3c, e3⟩, ⟨q4a, q4n, q4c, e4⟩⟩ := hP3.rok.forms
      have hv : RN'.val = .agg #[.slice q1a q1n q1c, .slice q2a q2n q2c, .slice q3a q3n q3c, .slice q4a q4n q4c] := by unfold RNet.val; rw [e1, e2, e3, e4]
      have FI := FIN0.out _ W3 RN' hP3 (by rw [hab]; exact (HP.out.launch x HX.out.byt).2) 0
      rw [e1, e2, e3, e4] at FI
      have y3 := hP3.at_ (List.mem_cons_self ..)
      dsimp only at y3
      have g0 := frozen_blk (g := s + 1 + 1 + 1) y3 0
      have g1 := frozen_blk (g := s + 1 + 1 + 1) y3 1
      have g2 := frozen_blk (g := s + 1 + 1 + 1) y3 2
      have g3 := frozen_blk (g := s + 1 + 1 + 1) y3 3
      obtain ⟨t0, t1, t2, t3, -⟩ := cells4 (b := s + 1 + 1 + 1) y3
      have HFI := Lib.hid FI
      rw [hv]
      clear FI y3 e1 e2 e3 e4 hv hab hP3 c0 c1 c2 c3 c4 c5 c6 r0 r1 r2 r3 CL
      go_wp2_with fail
      go_meet
      exact HFI.out
    by_cases h2 : wh = 2
    · subst h2
      have CL := Lib.hid (launch_ok H4.out HP.out hi x HX.out HF.out)
      rw [HVAL.out, HXV.out] at CL
      go_wp2_with fail
      refine CL.out.mono ?_
      rintro e W3 ⟨RN', rfl, hab, hP3⟩
      obtain ⟨⟨q1a, q1n, q1c, e1⟩, ⟨q2a, q2n, q2c, e2⟩, ⟨q3a, q3n, q3c, e3⟩, ⟨q4a, q4n, q4c, e4⟩⟩ := hP3.rok.forms
      have hv : RN'.val = .agg #[.slice q1a q1n q1c, .slice q2a q2n q2c, .slice q3a q3n q3c, .slice q4a q4n q4c] := by unfold RNet.val; rw [e1, e2, e3, e4]
      have FI := FIN0.out _ W3 RN' hP3 (by rw [hab]; exact (HP.out.launch x HX.out.byt).2) 0
      rw [e1, e2, e3, e4] at FI
      have y3 := hP3.at_ (List.mem_cons_self ..)
      dsimp only at y3
      have g0 := frozen_blk (g := s + 1 + 1 + 1) y3 0
      have g1 := frozen_blk (g := s + 1 + 1 + 1) y3 1
      have g2 := frozen_blk (g := s + 1 + 1 + 1) y3 2
      have g3 := frozen_blk (g := s + 1 + 1 + 1) y3 3
      obtain ⟨t0, t1, t2, t3, -⟩ := cells4 (b := s + 1 + 1 + 1) y3
      have HFI := Lib.hid FI
      rw [hv]
      clear FI y3 e1 e2 e3 e4 hv hab hP3 c0 c1 c2 c3 c4 c5 c6 r0 r1 r2 r3 CL
      go_wp2_with fail
      go_meet
      exact HFI.out
    by_cases h3 : wh = 3
    · subst h3
      have CL := Lib.hid (launch_ok H4.out HP.out hi x HX.out HF.out)
      rw [HVAL.out, HXV.out] at CL
      go_wp2_with fail
      refine CL.out.mono ?_
      rintro e W3 ⟨RN', rfl, hab, hP3⟩
      obtain ⟨⟨q1a, q1n, q1c, e1⟩, ⟨q2a, q2n, q2c, e2⟩, ⟨q3a, q3n, q3c, e3⟩, ⟨q4a, q4n, q4c, e4⟩⟩ := hP3.rok.forms
      have hv : RN'.val = .agg #[.slice q1a q1n q1c, .slice q2a q2n q2c, .slice q3a q3n q3c, .slice q4a q4n q4c] := by unfold RNet.val; rw [e1, e2, e3, e4]
      have FI := FIN0.out _ W3 RN' hP3 (by rw [hab]; exact (HP.out.launch x HX.out.byt).2) 0
      rw [e1, e2, e3, e4] at FI
      have y3 := hP3.at_ (List.mem_cons_self ..)
      dsimp only at y3
      have g0 := frozen_blk (g := s + 1 + 1 + 1) y3 0
      have g1 := frozen_blk (g := s + 1 + 1 + 1) y3 1
      have g2 := frozen_blk (g := s + 1 + 1 + 1) y3 2
      have g3 := frozen_blk (g := s + 1 + 1 + 1) y3 3
      obtain ⟨t0, t1, t2, t3, -⟩ := cells4 (b := s + 1 + 1 + 1) y3
      have HFI := Lib.hid FI
      rw [hv]
      clear FI y3 e1 e2 e3 e4 hv hab hP3 c0 c1 c2 c3 c4 c5 c6 r0 r1 r2 r3 CL
      go_wp2_with fail
      go_meet
      exact HFI.out
    by_cases h4 : wh = 4
    · subst h4
      have CL := Lib.hid (launch_ok H4.out HP.out hi x HX.out HF.out)
      rw [HVAL.out, HXV.out] at CL
      go_wp2_with fail
      refine CL.out.mono ?_
      rintro e W3 ⟨RN', rfl, hab, hP3⟩
      obtain ⟨⟨q1a, q1n, q1c, e1⟩, ⟨q2a, q2n, q2c, e2⟩, ⟨q3a, q3n, q3c, e3⟩, ⟨q4a, q4n, q4c, e4⟩⟩ := hP3.rok.forms
      have hv : RN'.val = .agg #[.slice q1a q1n q1c, .slice q2a q2n q2c, .slice q3a q3n q3c, .slice q4a q4n q4c] := by unfold RNet.val; rw [e1, e2, e3, e4]
      have FI := FIN0.out _ W3 RN' hP3 (by rw [hab]; exact (HP.out.launch x HX.out.byt).2) 0
      rw [e1, e2, e3, e4] at FI
      have y3 := hP3.at_ (List.mem_cons_self ..)
      dsimp only at y3
      have g0 := frozen_blk (g := s + 1 + 1 + 1) y3 0
      have g1 := frozen_blk (g := s + 1 + 1 + 1) y3 1
      have g2 := frozen_blk (g := s + 1 + 1 + 1) y3 2
      have g3 := frozen_blk (g := s + 1 + 1 + 1) y3 3
      obtain ⟨t0, t1, t2, t3, -⟩ := cells4 (b := s + 1 + 1 + 1) y3
      have HFI := Lib.hid FI
      rw [hv]
      clear FI y3 e1 e2 e3 e4 hv hab hP3 c0 c1 c2 c3 c4 c5 c6 r0 r1 r2 r3 CL
      go_wp2_with fail
      go_meet
      exact HFI.out
    by_cases h5 : wh = 5
    · subst h5
      have CL := Lib.hid (H4.out.deliver HT.out x.id HX.out.id)
      have hE := (HP.out.deliver x.id).1
      go_wp2_with fail
      refine CL.out.mono ?_
      rintro e W3 ⟨qk, rfl, hqa, hP3, hqo, hql⟩
      rw [hE] at hqa ⊢
      obtain ⟨ka, kc, hkv⟩ := ownB_slice hqo
      obtain ⟨kn, hkn⟩ : ∃ kn, qk.bs.length = kn := ⟨_, rfl⟩
      rw [hkn] at hkv
      have hP4 := hP3.box (.cells #[.string qk.frm, .string qk.to, .slice ka kn kc] 35)
      have hb4 : Below W3.heap.size W3 (W3.alloc (.cells #[.string qk.frm, .string qk.to, .slice ka kn kc] 35)) := (Below.refl _ _).alloc (Nat.le_refl _) _
      obtain ⟨W4, hW4⟩ : ∃ W4, W4 = W3.alloc (.cells #[.string qk.frm, .string qk.to, .slice ka kn kc] 35) := ⟨_, rfl⟩
      rw [← hW4] at hP4 hb4
      have rq4 : rdB W4 qk.bv qk.bs := (ownB_rd hqo (by omega)).below hb4
      clear c0 c1 c2 c3 c4 c5 c6 r0 r1 r2 r3
      obtain ⟨c0, c1, -⟩ := ACTC.out _ _ [_, _] _ hP4
      obtain ⟨r0, r1, r2, r3⟩ := REFC.out _ _ [_, _] _ hP4
      have RC := Lib.hid (rdeliver_all hP4.rok (HP.out.rsmall (by omega)) x.id)
      rw [HVAL.out] at RC
      have HP4 := Lib.hid hP4
      have HQA := Lib.hid hqa
      have HKV := Lib.hid hkv
      have RQ4 := Lib.hid rq4
      have HW4 := Lib.hid hW4
      rw [hW4] at c0 c1 r0 r1 r2 r3
      unfold Pk.val
      rw [hkv]
      clear hP3 hP4 hE CL hqa hkv hkn hqo hb4 rq4 hW4 hql
      go_wp2_with fail
      rw [← HW4.out]
      refine RC.out.mono ?_
      rintro e W5 ⟨RN', q', rfl, hN, hab, hq'a, hq'o, -, hq'l⟩
      obtain ⟨⟨q1a, q1n, q1c, e1⟩, ⟨q2a, q2n, q2c, e2⟩, ⟨q3a, q3n, q3c, e3⟩, ⟨q4a, q4n, q4c, e4⟩⟩ := hN.ok.forms
      have hv : RN'.val = .agg #[.slice q1a q1n q1c, .slice q2a q2n q2c, .slice q3a q3n q3c, .slice q4a q4n q4c] := by unfold RNet.val; rw [e1, e2, e3, e4]
      obtain ⟨pa, pc, hpv⟩ := ownB_slice hq'o
      obtain ⟨pn, hpn⟩ : ∃ pn, q'.bs.length = pn := ⟨_, rfl⟩
      rw [hpn] at hpv
      have hP6 := ((HP4.out.ref hN).box (.cells #[.slice q1a q1n q1c, .slice q2a q2n q2c, .slice q3a q3n q3c, .slice q4a q4n q4c] 64)).box (.cells #[.string q'.frm, .string q'.to, .slice pa pn pc] 35)
      have hb6 : Below W5.heap.size W5 ((W5.alloc (.cells #[.slice q1a q1n q1c, .slice q2a q2n q2c, .slice q3a q3n q3c, .slice q4a q4n q4c] 64)).alloc (.cells #[.string q'.frm, .string q'.to, .slice pa pn pc] 35)) := ((Below.refl _ _).alloc (Nat.le_refl _) _).alloc (by simp) _
      obtain ⟨W6, hW6⟩ : ∃ W6, W6 = (W5.alloc (.cells #[.slice q1a q1n q1c, .slice q2a q2n q2c, .slice q3a q3n q3c, .slice q4a q4n q4c] 64)).alloc (.cells #[.string q'.frm, .string q'.to, .slice pa pn pc] 35) := ⟨_, rfl⟩
      rw [← hW6] at hP6 hb6
      simp only [World.size_alloc] at hP6
      obtain ⟨D1, hD1⟩ : ∃ D1, W3.heap.size = D1 := ⟨_, rfl⟩
      obtain ⟨D2, hD2⟩ : ∃ D2, W5.heap.size = D2 := ⟨_, rfl⟩
      rw [hD1, hD2] at hP6
      have hX := hP6.below ((Below.refl _ _).drew)
      have rk6 : rdB W6.drew qk.bv qk.bs := ((RQ4.out.below hN.below).below hb6).below ((Below.refl _ _).drew)
      have rp6 : rdB W6.drew q'.bv q'.bs := ((ownB_rd hq'o (by omega)).below hb6).below ((Below.refl _ _).drew)
      have hsame : sameS qk q' = true := by
        have e : qk.abs = q'.abs := by rw [HQA.out, hq'a]
        have f1 : qk.frm = q'.frm := congrArg APk.frm e
        have f2 : qk.to = q'.to := congrArg APk.to e
        have f3 : qk.bs = q'.bs := congrArg APk.bs e
        simp [sameS, f1, f2, f3]
      have SAME : Hid (∀ ww, Below W6.drew.heap.size W6.drew ww → Calls Try.prog 29 #[.agg #[.string qk.frm, .string qk.to, .slice ka kn kc], .agg #[.string q'.frm, .string q'.to, .slice pa pn pc]] ww fun e w' => e = .returned (.bool true) ∧ Below ww.heap.size ww w') := Lib.hid fun ww hww => by
        have h := rsame_any qk q' ww (rk6.below hww) (rp6.below hww)
        unfold Pk.val at h
        rw [hsame, HKV.out, hpv] at h
        exact h
      have PX : Hid (∀ ww, Below W6.drew.heap.size W6.drew ww → PS H w0 p (A.deliver x.id).1 RN' ((D2 + 1, .cells #[.string q'.frm, .string q'.to, .slice pa pn pc] 35 (0, 0)) :: (D2, .cells #[.slice q1a q1n q1c, .slice q2a q2n q2c, .slice q3a q3n q3c, .slice q4a q4n q4c] 64 (0, 0)) :: (D1, .cells #[.string qk.frm, .string qk.to, .slice ka kn kc] 35 (0, 0)) :: (s + 3, .cells #[.slice a1 n1 k1, .slice a2 n2 k2, .slice a3 n3 k3, .slice a4 n4 k4] 64 (0, 0)) :: KK) ww) := Lib.hid fun ww hww => hX.below hww
      have FI : Hid (∀ w1, Below W6.drew.heap.size W6.drew w1 → DRel H w0 p s i KK (.int .i64 (RN.abs.deliver x.id).2.2) (.int .i64 (RN.abs.deliver x.id).2.2) (.bool true) ((((w1.setCell ⟨s + 3, 0, none⟩ (.slice q1a q1n q1c)).setCell ⟨s + 3, 1, none⟩ (.slice q2a q2n q2c)).setCell ⟨s + 3, 2, none⟩ (.slice q3a q3n q3c)).setCell ⟨s + 3, 3, none⟩ (.slice q4a q4n q4c))) := Lib.hid fun w1 hw1 => by
        have h := FIN0.out _ w1 RN' ((PX.out w1 hw1).sub fun y hy => by simp only [List.mem_cons] at hy ⊢; exact .inr (.inr (.inr hy))) (by rw [hab]; exact (HP.out.deliver x.id).2) (RN.abs.deliver x.id).2.2
        rw [e1, e2, e3, e4] at h
        exact h
      have HW6 := Lib.hid hW6
      have HD1 := Lib.hid hD1
      have HD2 := Lib.hid hD2
      rw [hv]
      unfold Pk.val
      rw [hpv]
      clear hP6 hb6 hX rk6 rp6 hsame e1 e2 e3 e4 hv hN hab hq'a hq'o hq'l hpv hpn hW6 hD1 hD2 c0 c1 r0 r1 r2 r3
      go_wp2_with fail
      rw [← HW6.out, HD1.out, HD2.out]
      refine wp_region_chain (twoB W6.drew (s + 1 + 1 + 1) (.slice q1a q1n q1c) (.slice q2a q2n q2c) (.slice q3a q3n q3c) (.slice q4a q4n q4c)) [3, 6] [(0, 2), (1, 1), (2, 1)] (by kernel_rfl) (by kernel_rfl) (by kernel_rfl) (by kernel_rfl) rfl ?_
      (refine chain_load rfl rfl 2 (by simp) ?_; apply Exists.intro; refine ⟨fun k ww hk hww => ?_, ?_⟩; (focus (have bb := twoB_lt (by omega) hww; have y := (PX.out ww bb).at_ (x := (D2, .cells #[.slice q1a q1n q1c, .slice q2a q2n q2c, .slice q3a q3n q3c, .slice q4a q4n q4c] 64 (0, 0))) (by simp); dsimp only at y; obtain ⟨m0, m1, m2, m3, -⟩ := cells4 y; unfold calmAt calmUpon; go_simp; rfl)); (simp only [Act.put, List.setIfInBounds_toArray, List.set_cons_succ, List.set_cons_zero]))
      (refine chain_load rfl rfl 1 (by simp) ?_; apply Exists.intro; refine ⟨fun k ww hk hww => ?_, ?_⟩; (focus (have bb := twoB_lt (by omega) hww; have y := (PX.out ww bb).at_ (x := (D1, .cells #[.string qk.frm, .string qk.to, .slice ka kn kc] 35 (0, 0))) (by simp); dsimp only at y; obtain ⟨m0, m1, m2, -⟩ := cells3 y; unfold calmAt calmUpon; go_simp; rfl)); (simp only [Act.put, List.setIfInBounds_toArray, List.set_cons_succ, List.set_cons_zero]))
      (refine chain_load rfl rfl 1 (by simp) ?_; apply Exists.intro; refine ⟨fun k ww hk hww => ?_, ?_⟩; (focus (have bb := twoB_lt (by omega) hww; have y := (PX.out ww bb).at_ (x := (D2 + 1, .cells #[.string q'.frm, .string q'.to, .slice pa pn pc] 35 (0, 0))) (by simp); dsimp only at y; obtain ⟨m0, m1, m2, -⟩ := cells3 y; unfold calmAt calmUpon; go_simp; rfl)); (simp only [Act.put, List.setIfInBounds_toArray, List.set_cons_succ, List.set_cons_zero]))
      refine chain_write (by kernel_rfl) rfl 0 rfl (by rfl) ?_
      apply Exists.intro
      refine ⟨fun ww hww => ?_, ?_⟩
      focus
        obtain rfl : ww = W6.drew := hww
        unfold calmAt calmUpon
        go_simp
        refine (SAME.out _ (Below.refl _ _)).mono ?_
        rintro e w1 ⟨rfl, hb1⟩
        exact ⟨rfl, hb1⟩
      (simp only [Act.put, List.setIfInBounds_toArray, List.set_cons_succ, List.set_cons_zero])
      iterate 2 (refine chain_pure rfl rfl ?_; apply Exists.intro; refine ⟨fun ww => ?_, ?_⟩; (focus (unfold calmAt calmUpon; go_simp; rfl)); (simp only [Act.put, List.setIfInBounds_toArray, List.set_cons_succ, List.set_cons_zero]))
      refine chain_write (by kernel_rfl) rfl 1 rfl (by rfl) ?_
      apply Exists.intro
      refine ⟨fun ww hww => ?_, ?_⟩
      focus
        have bb := twoB_lt (by omega) hww
        have y := (PX.out ww bb).at_ (x := (s + 3, .cells #[.slice a1 n1 k1, .slice a2 n2 k2, .slice a3 n3 k3, .slice a4 n4 k4] 64 (0, 0))) (by simp)
        dsimp only at y
        obtain ⟨t0, t1, t2, t3, -⟩ := cells4 (b := s + 1 + 1 + 1) y
        have g0 := frozen_blk (g := s + 1 + 1 + 1) y 0
        have g1 := frozen_blk (g := s + 1 + 1 + 1) y 1
        have g2 := frozen_blk (g := s + 1 + 1 + 1) y 2
        have g3 := frozen_blk (g := s + 1 + 1 + 1) y 3
        unfold calmAt calmUpon
        go_simp
        exact ⟨rfl, ww, bb, rfl⟩
      (simp only [Act.put, List.setIfInBounds_toArray, List.set_cons_succ, List.set_cons_zero])
      iterate 3 (refine chain_pure rfl rfl ?_; apply Exists.intro; refine ⟨fun ww => ?_, ?_⟩; (focus (unfold calmAt calmUpon; go_simp; rfl)); (simp only [Act.put, List.setIfInBounds_toArray, List.set_cons_succ, List.set_cons_zero]))
      refine calm_nil ?_
      rintro ww ⟨w1, hw1, hww⟩
      have hfi := FI.out w1 hw1
      go_wp2_with fail
      go_meet
      rw [hww]
      exact hfi
    by_cases h6 : wh = 6
    · subst h6
      have CL := Lib.hid (H4.out.deliver HT.out x.id HX.out.id)
      have hE := (HP.out.deliver x.id).1
      go_wp2_with fail
      refine CL.out.mono ?_
      rintro e W3 ⟨qk, rfl, hqa, hP3, hqo, hql⟩
      rw [hE] at hqa ⊢
      obtain ⟨ka, kc, hkv⟩ := ownB_slice hqo
      obtain ⟨kn, hkn⟩ : ∃ kn, qk.bs.length = kn := ⟨_, rfl⟩
      rw [hkn] at hkv
      have hP4 := hP3.box (.cells #[.string qk.frm, .string qk.to, .slice ka kn kc] 35)
      have hb4 : Below W3.heap.size W3 (W3.alloc (.cells #[.string qk.frm, .string qk.to, .slice ka kn kc] 35)) := (Below.refl _ _).alloc (Nat.le_refl _) _
      obtain ⟨W4, hW4⟩ : ∃ W4, W4 = W3.alloc (.cells #[.string qk.frm, .string qk.to, .slice ka kn kc] 35) := ⟨_, rfl⟩
      rw [← hW4] at hP4 hb4
      have rq4 : rdB W4 qk.bv qk.bs := (ownB_rd hqo (by omega)).below hb4
      clear c0 c1 c2 c3 c4 c5 c6 r0 r1 r2 r3
      obtain ⟨c0, c1, -⟩ := ACTC.out _ _ [_, _] _ hP4
      obtain ⟨r0, r1, r2, r3⟩ := REFC.out _ _ [_, _] _ hP4
      have RC := Lib.hid (rdeliver_all hP4.rok (HP.out.rsmall (by omega)) x.id)
      rw [HVAL.out] at RC
      have HP4 := Lib.hid hP4
      have HQA := Lib.hid hqa
      have HKV := Lib.hid hkv
      have RQ4 := Lib.hid rq4
      have HW4 := Lib.hid hW4
      rw [hW4] at c0 c1 r0 r1 r2 r3
      unfold Pk.val
      rw [hkv]
      clear hP3 hP4 hE CL hqa hkv hkn hqo hb4 rq4 hW4 hql
      go_wp2_with fail
      rw [← HW4.out]
      refine RC.out.mono ?_
      rintro e W5 ⟨RN', q', rfl, hN, hab, hq'a, hq'o, -, hq'l⟩
      obtain ⟨⟨q1a, q1n, q1c, e1⟩, ⟨q2a, q2n, q2c, e2⟩, ⟨q3a, q3n, q3c, e3⟩, ⟨q4a, q4n, q4c, e4⟩⟩ := hN.ok.forms
      have hv : RN'.val = .agg #[.slice q1a q1n q1c, .slice q2a q2n q2c, .slice q3a q3n q3c, .slice q4a q4n q4c] := by unfold RNet.val; rw [e1, e2, e3, e4]
      obtain ⟨pa, pc, hpv⟩ := ownB_slice hq'o
      obtain ⟨pn, hpn⟩ : ∃ pn, q'.bs.length = pn := ⟨_, rfl⟩
      rw [hpn] at hpv
      have hP6 := ((HP4.out.ref hN).box (.cells #[.slice q1a q1n q1c, .slice q2a q2n q2c, .slice q3a q3n q3c, .slice q4a q4n q4c] 64)).box (.cells #[.string q'.frm, .string q'.to, .slice pa pn pc] 35)
      have hb6 : Below W5.heap.size W5 ((W5.alloc (.cells #[.slice q1a q1n q1c, .slice q2a q2n q2c, .slice q3a q3n q3c, .slice q4a q4n q4c] 64)).alloc (.cells #[.string q'.frm, .string q'.to, .slice pa pn pc] 35)) := ((Below.refl _ _).alloc (Nat.le_refl _) _).alloc (by simp) _
      obtain ⟨W6, hW6⟩ : ∃ W6, W6 = (W5.alloc (.cells #[.slice q1a q1n q1c, .slice q2a q2n q2c, .slice q3a q3n q3c, .slice q4a q4n q4c] 64)).alloc (.cells #[.string q'.frm, .string q'.to, .slice pa pn pc] 35) := ⟨_, rfl⟩
      rw [← hW6] at hP6 hb6
      simp only [World.size_alloc] at hP6
      obtain ⟨D1, hD1⟩ : ∃ D1, W3.heap.size = D1 := ⟨_, rfl⟩
      obtain ⟨D2, hD2⟩ : ∃ D2, W5.heap.size = D2 := ⟨_, rfl⟩
      rw [hD1, hD2] at hP6
      have hX := hP6.below ((Below.refl _ _).drew)
      have rk6 : rdB W6.drew qk.bv qk.bs := ((RQ4.out.below hN.below).below hb6).below ((Below.refl _ _).drew)
      have rp6 : rdB W6.drew q'.bv q'.bs := ((ownB_rd hq'o (by omega)).below hb6).below ((Below.refl _ _).drew)
      have hsame : sameS qk q' = true := by
        have e : qk.abs = q'.abs := by rw [HQA.out, hq'a]
        have f1 : qk.frm = q'.frm := congrArg APk.frm e
        have f2 : qk.to = q'.to := congrArg APk.to e
        have f3 : qk.bs = q'.bs := congrArg APk.bs e
        simp [sameS, f1, f2, f3]
      have SAME : Hid (∀ ww, Below W6.drew.heap.size W6.drew ww → Calls Try.prog 29 #[.agg #[.string qk.frm, .string qk.to, .slice ka kn kc], .agg #[.string q'.frm, .string q'.to, .slice pa pn pc]] ww fun e w' => e = .returned (.bool true) ∧ Below ww.heap.size ww w') := Lib.hid fun ww hww => by
        have h := rsame_any qk q' ww (rk6.below hww) (rp6.below hww)
        unfold Pk.val at h
        rw [hsame, HKV.out, hpv] at h
        exact h
      have PX : Hid (∀ ww, Below W6.drew.heap.size W6.drew ww → PS H w0 p (A.deliver x.id).1 RN' ((D2 + 1, .cells #[.string q'.frm, .string q'.to, .slice pa pn pc] 35 (0, 0)) :: (D2, .cells #[.slice q1a q1n q1c, .slice q2a q2n q2c, .slice q3a q3n q3c, .slice q4a q4n q4c] 64 (0, 0)) :: (D1, .cells #[.string qk.frm, .string qk.to, .slice ka kn kc] 35 (0, 0)) :: (s + 3, .cells #[.slice a1 n1 k1, .slice a2 n2 k2, .slice a3 n3 k3, .slice a4 n4 k4] 64 (0, 0)) :: KK) ww) := Lib.hid fun ww hww => hX.below hww
      have FI : Hid (∀ w1, Below W6.drew.heap.size W6.drew w1 → DRel H w0 p s i KK (.int .i64 (RN.abs.deliver x.id).2.2) (.int .i64 (RN.abs.deliver x.id).2.2) (.bool true) ((((w1.setCell ⟨s + 3, 0, none⟩ (.slice q1a q1n q1c)).setCell ⟨s + 3, 1, none⟩ (.slice q2a q2n q2c)).setCell ⟨s + 3, 2, none⟩ (.slice q3a q3n q3c)).setCell ⟨s + 3, 3, none⟩ (.slice q4a q4n q4c))) := Lib.hid fun w1 hw1 => by
        have h := FIN0.out _ w1 RN' ((PX.out w1 hw1).sub fun y hy => by simp only [List.mem_cons] at hy ⊢; exact .inr (.inr (.inr hy))) (by rw [hab]; exact (HP.out.deliver x.id).2) (RN.abs.deliver x.id).2.2
        rw [e1, e2, e3, e4] at h
        exact h
      have HW6 := Lib.hid hW6
      have HD1 := Lib.hid hD1
      have HD2 := Lib.hid hD2
      rw [hv]
      unfold Pk.val
      rw [hpv]
      clear hP6 hb6 hX rk6 rp6 hsame e1 e2 e3 e4 hv hN hab hq'a hq'o hq'l hpv hpn hW6 hD1 hD2 c0 c1 r0 r1 r2 r3
      go_wp2_with fail
      rw [← HW6.out, HD1.out, HD2.out]
      refine wp_region_chain (twoB W6.drew (s + 1 + 1 + 1) (.slice q1a q1n q1c) (.slice q2a q2n q2c) (.slice q3a q3n q3c) (.slice q4a q4n q4c)) [3, 6] [(0, 2), (1, 1), (2, 1)] (by kernel_rfl) (by kernel_rfl) (by kernel_rfl) (by kernel_rfl) rfl ?_
      (refine chain_load rfl rfl 2 (by simp) ?_; apply Exists.intro; refine ⟨fun k ww hk hww => ?_, ?_⟩; (focus (have bb := twoB_lt (by omega) hww; have y := (PX.out ww bb).at_ (x := (D2, .cells #[.slice q1a q1n q1c, .slice q2a q2n q2c, .slice q3a q3n q3c, .slice q4a q4n q4c] 64 (0, 0))) (by simp); dsimp only at y; obtain ⟨m0, m1, m2, m3, -⟩ := cells4 y; unfold calmAt calmUpon; go_simp; rfl)); (simp only [Act.put, List.setIfInBounds_toArray, List.set_cons_succ, List.set_cons_zero]))
      (refine chain_load rfl rfl 1 (by simp) ?_; apply Exists.intro; refine ⟨fun k ww hk hww => ?_, ?_⟩; (focus (have bb := twoB_lt (by omega) hww; have y := (PX.out ww bb).at_ (x := (D1, .cells #[.string qk.frm, .string qk.to, .slice ka kn kc] 35 (0, 0))) (by simp); dsimp only at y; obtain ⟨m0, m1, m2, -⟩ := cells3 y; unfold calmAt calmUpon; go_simp; rfl)); (simp only [Act.put, List.setIfInBounds_toArray, List.set_cons_succ, List.set_cons_zero]))
      (refine chain_load rfl rfl 1 (by simp) ?_; apply Exists.intro; refine ⟨fun k ww hk hww => ?_, ?_⟩; (focus (have bb := twoB_lt (by omega) hww; have y := (PX.out ww bb).at_ (x := (D2 + 1, .cells #[.string q'.frm, .string q'.to, .slice pa pn pc] 35 (0, 0))) (by simp); dsimp only at y; obtain ⟨m0, m1, m2, -⟩ := cells3 y; unfold calmAt calmUpon; go_simp; rfl)); (simp only [Act.put, List.setIfInBounds_toArray, List.set_cons_succ, List.set_cons_zero]))
      refine chain_write (by kernel_rfl) rfl 0 rfl (by rfl) ?_
      apply Exists.intro
      refine ⟨fun ww hww => ?_, ?_⟩
      focus
        obtain rfl : ww = W6.drew := hww
        unfold calmAt calmUpon
        go_simp
        refine (SAME.out _ (Below.refl _ _)).mono ?_
        rintro e w1 ⟨rfl, hb1⟩
        exact ⟨rfl, hb1⟩
      (simp only [Act.put, List.setIfInBounds_toArray, List.set_cons_succ, List.set_cons_zero])
      iterate 2 (refine chain_pure rfl rfl ?_; apply Exists.intro; refine ⟨fun ww => ?_, ?_⟩; (focus (unfold calmAt calmUpon; go_simp; rfl)); (simp only [Act.put, List.setIfInBounds_toArray, List.set_cons_succ, List.set_cons_zero]))
      refine chain_write (by kernel_rfl) rfl 1 rfl (by rfl) ?_
      apply Exists.intro
      refine ⟨fun ww hww => ?_, ?_⟩
      focus
        have bb := twoB_lt (by omega) hww
        have y := (PX.out ww bb).at_ (x := (s + 3, .cells #[.slice a1 n1 k1, .slice a2 n2 k2, .slice a3 n3 k3, .slice a4 n4 k4] 64 (0, 0))) (by simp)
        dsimp only at y
        obtain ⟨t0, t1, t2, t3, -⟩ := cells4 (b := s + 1 + 1 + 1) y
        have g0 := frozen_blk (g := s + 1 + 1 + 1) y 0
        have g1 := frozen_blk (g := s + 1 + 1 + 1) y 1
        have g2 := frozen_blk (g := s + 1 + 1 + 1) y 2
        have g3 := frozen_blk (g := s + 1 + 1 + 1) y 3
        unfold calmAt calmUpon
        go_simp
        exact ⟨rfl, ww, bb, rfl⟩
      (simp only [Act.put, List.setIfInBounds_toArray, List.set_cons_succ, List.set_cons_zero])
      iterate 3 (refine chain_pure rfl rfl ?_; apply Exists.intro; refine ⟨fun ww => ?_, ?_⟩; (focus (unfold calmAt calmUpon; go_simp; rfl)); (simp only [Act.put, List.setIfInBounds_toArray, List.set_cons_succ, List.set_cons_zero]))
      refine calm_nil ?_
      rintro ww ⟨w1, hw1, hww⟩
      have hfi := FI.out w1 hw1
      go_wp2_with fail
      go_meet
      rw [hww]
      exact hfi
    by_cases h7 : wh = 7
    · subst h7
      have CL := Lib.hid (H4.out.drop HT.out x.id HX.out.id)
      have hE := (HP.out.drop x.id).1
      go_wp2_with fail
      refine CL.out.mono ?_
      rintro e W3 ⟨he, hP3⟩
      rw [hE] at he
      subst he
      clear c0 c1 c2 c3 c4 c5 c6 r0 r1 r2 r3
      obtain ⟨c0, c1, c2, c3, c4, c5, c6⟩ := ACTC.out _ _ [_] _ hP3
      obtain ⟨r0, r1, r2, r3⟩ := REFC.out _ _ [_] _ hP3
      have RC := Lib.hid (rdrop_any RN W3 hP3.rok (HP.out.rsmall (by omega)) x.id)
      rw [HVAL.out] at RC
      have HP3 := Lib.hid hP3
      clear hP3 hE CL
      go_wp2_with fail
      refine RC.out.mono ?_
      rintro e W4 ⟨RN', rfl, hN, hab⟩
      obtain ⟨⟨q1a, q1n, q1c, e1⟩, ⟨q2a, q2n, q2c, e2⟩, ⟨q3a, q3n, q3c, e3⟩, ⟨q4a, q4n, q4c, e4⟩⟩ := hN.ok.forms
      have hv : RN'.val = .agg #[.slice q1a q1n q1c, .slice q2a q2n q2c, .slice q3a q3n q3c, .slice q4a q4n q4c] := by unfold RNet.val; rw [e1, e2, e3, e4]
      have FI := FIN0.out _ W4 RN' (HP3.out.ref hN) (by rw [hab]; exact (HP.out.drop x.id).2) (RN.abs.drop x.id).2
      rw [e1, e2, e3, e4] at FI
      have y3 := (HP3.out.ref hN).at_ (List.mem_cons_self ..)
      dsimp only at y3
      have g0 := frozen_blk (g := s + 1 + 1 + 1) y3 0
      have g1 := frozen_blk (g := s + 1 + 1 + 1) y3 1
      have g2 := frozen_blk (g := s + 1 + 1 + 1) y3 2
      have g3 := frozen_blk (g := s + 1 + 1 + 1) y3 3
      obtain ⟨t0, t1, t2, t3, -⟩ := cells4 (b := s + 1 + 1 + 1) y3
      have HFI := Lib.hid FI
      rw [hv]
      clear FI y3 e1 e2 e3 e4 hv hN hab
      go_wp2_with fail
      go_meet
      exact HFI.out
    by_cases h8 : wh = 8
    · subst h8
      have CL := Lib.hid (H4.out.alter HT.out x.id x.off x.m HX.out.id)
      have hE := (HP.out.alter x.id x.off x.m).1
      go_wp2_with fail
      refine CL.out.mono ?_
      rintro e W3 ⟨he, hP3⟩
      rw [hE] at he
      subst he
      clear c0 c1 c2 c3 c4 c5 c6 r0 r1 r2 r3
      obtain ⟨c0, c1, c2, c3, c4, c5, c6⟩ := ACTC.out _ _ [_] _ hP3
      obtain ⟨r0, r1, r2, r3⟩ := REFC.out _ _ [_] _ hP3
      have RC := Lib.hid (ralter_all hP3.rok (HP.out.rsmall (by omega)) x.id x.off x.m)
      rw [HVAL.out] at RC
      have HP3 := Lib.hid hP3
      clear hP3 hE CL
      go_wp2_with fail
      refine RC.out.mono ?_
      rintro e W4 ⟨RN', rfl, hN, hab⟩
      obtain ⟨⟨q1a, q1n, q1c, e1⟩, ⟨q2a, q2n, q2c, e2⟩, ⟨q3a, q3n, q3c, e3⟩, ⟨q4a, q4n, q4c, e4⟩⟩ := hN.ok.forms
      have hv : RN'.val = .agg #[.slice q1a q1n q1c, .slice q2a q2n q2c, .slice q3a q3n q3c, .slice q4a q4n q4c] := by unfold RNet.val; rw [e1, e2, e3, e4]
      have FI := FIN0.out _ W4 RN' (HP3.out.ref hN) (by rw [hab]; exact (HP.out.alter x.id x.off x.m).2) (RN.abs.alter x.id x.off x.m).2
      rw [e1, e2, e3, e4] at FI
      have y3 := (HP3.out.ref hN).at_ (List.mem_cons_self ..)
      dsimp only at y3
      have g0 := frozen_blk (g := s + 1 + 1 + 1) y3 0
      have g1 := frozen_blk (g := s + 1 + 1 + 1) y3 1
      have g2 := frozen_blk (g := s + 1 + 1 + 1) y3 2
      have g3 := frozen_blk (g := s + 1 + 1 + 1) y3 3
      obtain ⟨t0, t1, t2, t3, -⟩ := cells4 (b := s + 1 + 1 + 1) y3
      have HFI := Lib.hid FI
      rw [hv]
      clear FI y3 e1 e2 e3 e4 hv hN hab
      go_wp2_with fail
      go_meet
      exact HFI.out
    by_cases h9 : wh = 9
    · subst h9
      have CL := Lib.hid (H4.out.redirect HT.out x.id x.p.to HX.out.id)
      have hE := (HP.out.redirect x.id x.p.to).1
      go_wp2_with fail
      refine CL.out.mono ?_
      rintro e W3 ⟨he, hP3⟩
      rw [hE] at he
      subst he
      clear c0 c1 c2 c3 c4 c5 c6 r0 r1 r2 r3
      obtain ⟨c0, c1, c2, c3, c4, c5, c6⟩ := ACTC.out _ _ [_] _ hP3
      obtain ⟨r0, r1, r2, r3⟩ := REFC.out _ _ [_] _ hP3
      have RC := Lib.hid (rredirect_any RN W3 hP3.rok (HP.out.rsmall (by omega)) x.id x.p.to)
      rw [HVAL.out] at RC
      have HP3 := Lib.hid hP3
      clear hP3 hE CL
      go_wp2_with fail
      refine RC.out.mono ?_
      rintro e W4 ⟨RN', rfl, hN, hab⟩
      obtain ⟨⟨q1a, q1n, q1c, e1⟩, ⟨q2a, q2n, q2c, e2⟩, ⟨q3a, q3n, q3c, e3⟩, ⟨q4a, q4n, q4c, e4⟩⟩ := hN.ok.forms
      have hv : RN'.val = .agg #[.slice q1a q1n q1c, .slice q2a q2n q2c, .slice q3a q3n q3c, .slice q4a q4n q4c] := by unfold RNet.val; rw [e1, e2, e3, e4]
      have FI := FIN0.out _ W4 RN' (HP3.out.ref hN) (by rw [hab]; exact (HP.out.redirect x.id x.p.to).2) (RN.abs.redirect x.id x.p.to).2
      rw [e1, e2, e3, e4] at FI
      have y3 := (HP3.out.ref hN).at_ (List.mem_cons_self ..)
      dsimp only at y3
      have g0 := frozen_blk (g := s + 1 + 1 + 1) y3 0
      have g1 := frozen_blk (g := s + 1 + 1 + 1) y3 1
      have g2 := frozen_blk (g := s + 1 + 1 + 1) y3 2
      have g3 := frozen_blk (g := s + 1 + 1 + 1) y3 3
      obtain ⟨t0, t1, t2, t3, -⟩ := cells4 (b := s + 1 + 1 + 1) y3
      have HFI := Lib.hid FI
      rw [hv]
      clear FI y3 e1 e2 e3 e4 hv hN hab
      go_wp2_with fail
      go_meet
      exact HFI.out
    by_cases h10 : wh = 10
    · subst h10
      have CL := Lib.hid (H4.out.block HT.out x.p.frm x.p.to)
      have hE := (HP.out.block x.p.frm x.p.to).1
      go_wp2_with fail
      refine CL.out.mono ?_
      rintro e W3 ⟨he, hP3⟩
      rw [hE] at he
      subst he
      clear c0 c1 c2 c3 c4 c5 c6 r0 r1 r2 r3
      obtain ⟨c0, c1, c2, c3, c4, c5, c6⟩ := ACTC.out _ _ [_] _ hP3
      obtain ⟨r0, r1, r2, r3⟩ := REFC.out _ _ [_] _ hP3
      have RC := Lib.hid (rblock_all hP3.rok (HP.out.rsmall (by omega)) x.p.frm x.p.to false)
      rw [HVAL.out] at RC
      have HP3 := Lib.hid hP3
      clear hP3 hE CL
      go_wp2_with fail
      refine RC.out.mono ?_
      rintro e W4 ⟨RN', rfl, hN, hab⟩
      obtain ⟨⟨q1a, q1n, q1c, e1⟩, ⟨q2a, q2n, q2c, e2⟩, ⟨q3a, q3n, q3c, e3⟩, ⟨q4a, q4n, q4c, e4⟩⟩ := hN.ok.forms
      have hv : RN'.val = .agg #[.slice q1a q1n q1c, .slice q2a q2n q2c, .slice q3a q3n q3c, .slice q4a q4n q4c] := by unfold RNet.val; rw [e1, e2, e3, e4]
      have FI := FIN0.out _ W4 RN' (HP3.out.ref hN) (by rw [hab]; exact (HP.out.block x.p.frm x.p.to).2) (RN.abs.block x.p.frm x.p.to false).2
      rw [e1, e2, e3, e4] at FI
      have y3 := (HP3.out.ref hN).at_ (List.mem_cons_self ..)
      dsimp only at y3
      have g0 := frozen_blk (g := s + 1 + 1 + 1) y3 0
      have g1 := frozen_blk (g := s + 1 + 1 + 1) y3 1
      have g2 := frozen_blk (g := s + 1 + 1 + 1) y3 2
      have g3 := frozen_blk (g := s + 1 + 1 + 1) y3 3
      obtain ⟨t0, t1, t2, t3, -⟩ := cells4 (b := s + 1 + 1 + 1) y3
      have HFI := Lib.hid FI
      rw [hv]
      clear FI y3 e1 e2 e3 e4 hv hN hab
      go_wp2_with fail
      go_meet
      exact HFI.out
    by_cases h11 : wh = 11
    · subst h11
      have CL := Lib.hid (H4.out.unblock HT.out x.p.frm x.p.to)
      have hE := (HP.out.unblock x.p.frm x.p.to).1
      go_wp2_with fail
      refine CL.out.mono ?_
      rintro e W3 ⟨he, hP3⟩
      rw [hE] at he
      subst he
      clear c0 c1 c2 c3 c4 c5 c6 r0 r1 r2 r3
      obtain ⟨c0, c1, c2, c3, c4, c5, c6⟩ := ACTC.out _ _ [_] _ hP3
      obtain ⟨r0, r1, r2, r3⟩ := REFC.out _ _ [_] _ hP3
      have RC := Lib.hid (rblock_all hP3.rok (HP.out.rsmall (by omega)) x.p.frm x.p.to true)
      rw [HVAL.out] at RC
      have HP3 := Lib.hid hP3
      clear hP3 hE CL
      go_wp2_with fail
      refine RC.out.mono ?_
      rintro e W4 ⟨RN', rfl, hN, hab⟩
      obtain ⟨⟨q1a, q1n, q1c, e1⟩, ⟨q2a, q2n, q2c, e2⟩, ⟨q3a, q3n, q3c, e3⟩, ⟨q4a, q4n, q4c, e4⟩⟩ := hN.ok.forms
      have hv : RN'.val = .agg #[.slice q1a q1n q1c, .slice q2a q2n q2c, .slice q3a q3n q3c, .slice q4a q4n q4c] := by unfold RNet.val; rw [e1, e2, e3, e4]
      have FI := FIN0.out _ W4 RN' (HP3.out.ref hN) (by rw [hab]; exact (HP.out.unblock x.p.frm x.p.to).2) (RN.abs.block x.p.frm x.p.to true).2
      rw [e1, e2, e3, e4] at FI
      have y3 := (HP3.out.ref hN).at_ (List.mem_cons_self ..)
      dsimp only at y3
      have g0 := frozen_blk (g := s + 1 + 1 + 1) y3 0
      have g1 := frozen_blk (g := s + 1 + 1 + 1) y3 1
      have g2 := frozen_blk (g := s + 1 + 1 + 1) y3 2
      have g3 := frozen_blk (g := s + 1 + 1 + 1) y3 3
      obtain ⟨t0, t1, t2, t3, -⟩ := cells4 (b := s + 1 + 1 + 1) y3
      have HFI := Lib.hid FI
      rw [hv]
      clear FI y3 e1 e2 e3 e4 hv hN hab
      go_wp2_with fail
      go_meet
      exact HFI.out
    go_wp2_with fail
    refine (H4.out.copied HP.out.cons (by omega)).mono ?_
    rintro e W3 ⟨C, rfl, hC3⟩
    have hC4 := hC3.box (.cells #[.int .u8 9] 5)
    obtain ⟨W4, hW4⟩ : ∃ W4, W4 = W3.alloc (.cells #[.int .u8 9] 5) := ⟨_, rfl⟩
    obtain ⟨D, hD⟩ : ∃ D, W3.heap.size = D := ⟨_, rfl⟩
    rw [← hW4, hD] at hC4
    have y9 : W4.heap[D]? = some (.cells #[.int .u8 9] 5 (0, 0)) := hC4.at_ (List.mem_cons_self ..)
    have rq : rdB W4 (.slice (some ⟨D, 0, none⟩) 1 1) [9] := by
      refine ⟨by simp, .inr (.inl ⟨D, 0, 1, rfl, (Array.getElem?_eq_some_iff.1 y9).1, fun j u hu => ?_⟩)⟩
      rw [cell_of_row _ _ _ _ _ _ y9, Nat.zero_add]
      match j with
      | 0 => simpa using hu
      | j + 1 => simp at hu
    have CL : Hid (Calls Try.prog 13 #[.pointer (some ⟨p, 0, none⟩), .agg #[.string { data := #[120] }, .string { data := #[121] }, .slice (some ⟨D, 0, none⟩) 1 1]] W4 (COut1 H w0 p C A RN ((D, .cells #[.int .u8 9] 5 (0, 0)) :: (s + 3, .cells #[.slice a1 n1 k1, .slice a2 n2 k2, .slice a3 n3 k3, .slice a4 n4 k4] 64 (0, 0)) :: KK) (i + 2))) :=
      Lib.hid (hC4.inject (by omega) ⟨{ data := #[120] }, { data := #[121] }, .slice (some ⟨D, 0, none⟩) 1 1, [9]⟩ rq fun _ b hb => .inr ⟨_, List.mem_cons_self .., by simpa [Value.ownBlock] using hb⟩)
    have HW4 := Lib.hid hW4
    have HD := Lib.hid hD
    clear hC3 hC4 hW4 y9 rq hD c0 c1 c2 c3 c4 c5 c6 r0 r1 r2 r3
    go_wp2_with fail
    rw [← HW4.out, HD.out]
    refine CL.out.mono ?_
    rintro e W5 ⟨_, _, rfl, hC5⟩
    go_wp2_with fail
    refine (hC5.alter (by omega) 0 0 1 (by omega)).mono ?_
    clear hC5
    rintro e W6 ⟨_, rfl, hC6⟩
    go_wp2_with fail
    refine (hC6.block (by omega) { data := #[97] } { data := #[98] }).mono ?_
    clear hC6
    rintro e W7 ⟨_, rfl, hC7⟩
    go_wp2_with fail
    refine (hC7.drop (by omega) 0 (by omega)).mono ?_
    clear hC7
    rintro e W8 ⟨_, rfl, hC8⟩
    have hX := hC8.ps.below ((Below.refl _ _).drew)
    have PX : Hid (∀ ww, Below W8.drew.heap.size W8.drew ww → PS H w0 C A RN ((D, .cells #[.int .u8 9] 5 (0, 0)) :: (s + 3, .cells #[.slice a1 n1 k1, .slice a2 n2 k2, .slice a3 n3 k3, .slice a4 n4 k4] 64 (0, 0)) :: KK) ww) := Lib.hid fun ww hww => hX.below hww
    have AGR : Hid (∀ ww, Below W8.drew.heap.size W8.drew ww → Calls Try.prog 33 #[.pointer (some ⟨C, 0, none⟩), .agg #[.slice a1 n1 k1, .slice a2 n2 k2, .slice a3 n3 k3, .slice a4 n4 k4]] ww fun e w' => e = .returned (.bool true) ∧ Below ww.heap.size ww w') := Lib.hid fun ww hww => by
      have h := agrees_ok ((PX.out ww hww).seen HP.out (by omega)) (PX.out ww hww).rok HP.out (by omega)
      rw [HVAL.out] at h
      exact h
    have FI : Hid (∀ w1, Below W8.drew.heap.size W8.drew w1 → PS H w0 C A RN ((s + 2, .cells #[.slice a1 n1 k1, .slice a2 n2 k2, .slice a3 n3 k3, .slice a4 n4 k4] 64 (0, 0)) :: kept) ((((w1.setCell ⟨s + 2, 0, none⟩ (.slice a1 n1 k1)).setCell ⟨s + 2, 1, none⟩ (.slice a2 n2 k2)).setCell ⟨s + 2, 2, none⟩ (.slice a3 n3 k3)).setCell ⟨s + 2, 3, none⟩ (.slice a4 n4 k4))) := Lib.hid fun w1 hw1 => by
      have h2 : PS H w0 C A RN ((s + 2, .cells #[.slice none 0 0, .slice none 0 0, .slice none 0 0, .slice none 0 0] 64 (0, 0)) :: kept) w1 := (PX.out w1 hw1).sub fun y hy => by
        rw [HKK.out]
        simp only [List.mem_cons] at hy ⊢
        rcases hy with h | h
        · exact .inr (.inr (.inl h))
        · exact .inr (.inr (.inr (.inr (.inr h))))
      exact h2.put4 (by omega) (fun y hy => by have := NK.out y hy; omega) _ _ _ _
    clear hX hC8
    go_wp2_with fail
    refine wp_region_chain (twoB W8.drew (s + 1 + 1) (.slice a1 n1 k1) (.slice a2 n2 k2) (.slice a3 n3 k3) (.slice a4 n4 k4)) [7, 10] [(1, 2), (6, 1)] (by kernel_rfl) (by kernel_rfl) (by kernel_rfl) (by kernel_rfl) rfl ?_
    (refine chain_pure rfl rfl ?_; apply Exists.intro; refine ⟨fun ww => ?_, ?_⟩; (focus (unfold calmAt calmUpon; go_simp; rfl)); (simp only [Act.put, List.setIfInBounds_toArray, List.set_cons_succ, List.set_cons_zero]))
    (refine chain_load rfl rfl 2 (by simp) ?_; apply Exists.intro; refine ⟨fun k ww hk hww => ?_, ?_⟩; (focus (have bb := twoB_lt (by omega) hww; have y := (PX.out ww bb).at_ (x := (s, .cells #[.slice a1 n1 k1, .slice a2 n2 k2, .slice a3 n3 k3, .slice a4 n4 k4] 64 (0, 0))) (by rw [HKK.out]; simp); dsimp only at y; obtain ⟨m0, m1, m2, m3, -⟩ := cells4 y; unfold calmAt calmUpon; go_simp; rfl)); (simp only [Act.put, List.setIfInBounds_toArray, List.set_cons_succ, List.set_cons_zero]))
    iterate 4 (refine chain_pure rfl rfl ?_; apply Exists.intro; refine ⟨fun ww => ?_, ?_⟩; (focus (unfold calmAt calmUpon; go_simp; rfl)); (simp only [Act.put, List.setIfInBounds_toArray, List.set_cons_succ, List.set_cons_zero]))
    (refine chain_load rfl rfl 1 (by simp) ?_; apply Exists.intro; refine ⟨fun k ww hk hww => ?_, ?_⟩; (focus (have bb := twoB_lt (by omega) hww; have y := (PX.out ww bb).at_ (x := (s, .cells #[.slice a1 n1 k1, .slice a2 n2 k2, .slice a3 n3 k3, .slice a4 n4 k4] 64 (0, 0))) (by rw [HKK.out]; simp); dsimp only at y; obtain ⟨m0, m1, m2, m3, -⟩ := cells4 y; unfold calmAt calmUpon; go_simp; rfl)); (simp only [Act.put, List.setIfInBounds_toArray, List.set_cons_succ, List.set_cons_zero]))
    refine chain_write (by kernel_rfl) rfl 0 rfl (by rfl) ?_
    apply Exists.intro
    refine ⟨fun ww hww => ?_, ?_⟩
    focus
      obtain rfl : ww = W8.drew := hww
      unfold calmAt calmUpon
      go_simp
      refine (AGR.out _ (Below.refl _ _)).mono ?_
      rintro e w1 ⟨rfl, hb1⟩
      exact ⟨rfl, hb1⟩
    (simp only [Act.put, List.setIfInBounds_toArray, List.set_cons_succ, List.set_cons_zero])
    iterate 2 (refine chain_pure rfl rfl ?_; apply Exists.intro; refine ⟨fun ww => ?_, ?_⟩; (focus (unfold calmAt calmUpon; go_simp; rfl)); (simp only [Act.put, List.setIfInBounds_toArray, List.set_cons_succ, List.set_cons_zero]))
    refine chain_write (by kernel_rfl) rfl 1 rfl (by rfl) ?_
    apply Exists.intro
    refine ⟨fun ww hww => ?_, ?_⟩
    focus
      have bb := twoB_lt (by omega) hww
      have y := (PX.out ww bb).at_ (x := (s + 2, .cells #[.slice none 0 0, .slice none 0 0, .slice none 0 0, .slice none 0 0] 64 (0, 0))) (by rw [HKK.out]; simp)
      dsimp only at y
      obtain ⟨t0, t1, t2, t3, -⟩ := cells4 (b := s + 1 + 1) y
      have g0 := frozen_blk (g := s + 1 + 1) y 0
      have g1 := frozen_blk (g := s + 1 + 1) y 1
      have g2 := frozen_blk (g := s + 1 + 1) y 2
      have g3 := frozen_blk (g := s + 1 + 1) y 3
      unfold calmAt calmUpon
      go_simp
      exact ⟨rfl, ww, bb, rfl⟩
    (simp only [Act.put, List.setIfInBounds_toArray, List.set_cons_succ, List.set_cons_zero])
    (refine chain_pure rfl rfl ?_; apply Exists.intro; refine ⟨fun ww => ?_, ?_⟩; (focus (unfold calmAt calmUpon; go_simp; rfl)); (simp only [Act.put, List.setIfInBounds_toArray, List.set_cons_succ, List.set_cons_zero]))
    refine calm_nil ?_
    rintro ww ⟨w1, hw1, hww⟩
    have hfi := FI.out w1 hw1
    go_wp2_with fail
    have hfi2 : PS H w0 C A RN ((s + 2, .cells #[.slice a1 n1 k1, .slice a2 n2 k2, .slice a3 n3 k3, .slice a4 n4 k4] 64 (0, 0)) :: kept) ww := by rw [hww]; exact hfi
    have zz := hfi2.at_ (List.mem_cons_self ..)
    dsimp only at zz
    obtain ⟨z0, z1, z2, z3, -⟩ := cells4 (b := s + 1 + 1) zz
    exact bodyPost_ret (v := .tuple #[.pointer (some ⟨C, 0, none⟩), .agg #[.slice a1 n1 k1, .slice a2 n2 k2, .slice a3 n3 k3, .slice a4 n4 k4], .bool true]) (by simp [results, Try.results24, go_sem, z0, z1, z2, z3]) rfl ⟨C, A, RN, by rw [HVAL.out], HP.out.mono (by omega), hfi2.sub fun y hy => List.mem_cons_of_mem _ hy⟩
  case rest =>
    obtain ⟨er, A', RN', rfl, rfl, rfl, hPair, hPS⟩ := hcut
    obtain ⟨⟨q1a, q1n, q1c, e1⟩, ⟨q2a, q2n, q2c, e2⟩, ⟨q3a, q3n, q3c, e3⟩, ⟨q4a, q4n, q4c, e4⟩⟩ := hPS.rok.forms
    have hv : RN'.val = .agg #[.slice q1a q1n q1c, .slice q2a q2n q2c, .slice q3a q3n q3c, .slice q4a q4n q4c] := by unfold RNet.val; rw [e1, e2, e3, e4]
    rw [e1, e2, e3, e4] at hPS
    have hX := hPS.below ((Below.refl _ _).drew)
    have PX : Hid (∀ ww, Below wc.drew.heap.size wc.drew ww → PS H w0 p A' RN' ((s + 3, .cells #[.slice q1a q1n q1c, .slice q2a q2n q2c, .slice q3a q3n q3c, .slice q4a q4n q4c] 64 (0, 0)) :: KK) ww) := Lib.hid fun ww hww => hX.below hww
    have AGR : Hid (∀ ww, Below wc.drew.heap.size wc.drew ww → Calls Try.prog 33 #[.pointer (some ⟨p, 0, none⟩), .agg #[.slice q1a q1n q1c, .slice q2a q2n q2c, .slice q3a q3n q3c, .slice q4a q4n q4c]] ww fun e w' => e = .returned (.bool true) ∧ Below ww.heap.size ww w') := Lib.hid fun ww hww => by
      have h := agrees_ok ((PX.out ww hww).seen hPair (by omega)) (PX.out ww hww).rok hPair (by omega)
      rw [hv] at h
      exact h
    have FI : Hid (∀ w1, Below wc.drew.heap.size wc.drew w1 → PS H w0 p A' RN' ((s + 2, .cells #[.slice q1a q1n q1c, .slice q2a q2n q2c, .slice q3a q3n q3c, .slice q4a q4n q4c] 64 (0, 0)) :: kept) ((((w1.setCell ⟨s + 2, 0, none⟩ (.slice q1a q1n q1c)).setCell ⟨s + 2, 1, none⟩ (.slice q2a q2n q2c)).setCell ⟨s + 2, 2, none⟩ (.slice q3a q3n q3c)).setCell ⟨s + 2, 3, none⟩ (.slice q4a q4n q4c))) := Lib.hid fun w1 hw1 => by
      have h2 : PS H w0 p A' RN' ((s + 2, .cells #[.slice none 0 0, .slice none 0 0, .slice none 0 0, .slice none 0 0] 64 (0, 0)) :: kept) w1 := (PX.out w1 hw1).sub fun y hy => by
        rw [HKK.out]
        simp only [List.mem_cons] at hy ⊢
        rcases hy with h | h
        · exact .inr (.inl h)
        · exact .inr (.inr (.inr (.inr h)))
      exact h2.put4 (by omega) (fun y hy => by have := NK.out y hy; omega) _ _ _ _
    have HV2 := Lib.hid hv
    have HPR := Lib.hid hPair
    clear hX hPS e1 e2 e3 e4 hv hPair
    go_wp2_with fail
    refine wp_region_chain (twoB wc.drew (s + 1 + 1) (.slice q1a q1n q1c) (.slice q2a q2n q2c) (.slice q3a q3n q3c) (.slice q4a q4n q4c)) [11, 14] [(1, 2), (10, 1)] (by kernel_rfl) (by kernel_rfl) (by kernel_rfl) (by kernel_rfl) rfl ?_
    (refine chain_pure rfl rfl ?_; apply Exists.intro; refine ⟨fun ww => ?_, ?_⟩; (focus (unfold calmAt calmUpon; go_simp; rfl)); (simp only [Act.put, List.setIfInBounds_toArray, List.set_cons_succ, List.set_cons_zero]))
    (refine chain_load rfl rfl 2 (by simp) ?_; apply Exists.intro; refine ⟨fun k ww hk hww => ?_, ?_⟩; (focus (have bb := twoB_lt (by omega) hww; have y := (PX.out ww bb).at_ (x := (s + 3, .cells #[.slice q1a q1n q1c, .slice q2a q2n q2c, .slice q3a q3n q3c, .slice q4a q4n q4c] 64 (0, 0))) (List.mem_cons_self ..); dsimp only at y; obtain ⟨m0, m1, m2, m3, -⟩ := cells4 (b := s + 1 + 1 + 1) y; unfold calmAt calmUpon; go_simp; rfl)); (simp only [Act.put, List.setIfInBounds_toArray, List.set_cons_succ, List.set_cons_zero]))
    iterate 8 (refine chain_pure rfl rfl ?_; apply Exists.intro; refine ⟨fun ww => ?_, ?_⟩; (focus (unfold calmAt calmUpon; go_simp; rfl)); (simp only [Act.put, List.setIfInBounds_toArray, List.set_cons_succ, List.set_cons_zero]))
    (refine chain_load rfl rfl 1 (by simp) ?_; apply Exists.intro; refine ⟨fun k ww hk hww => ?_, ?_⟩; (focus (have bb := twoB_lt (by omega) hww; have y := (PX.out ww bb).at_ (x := (s + 3, .cells #[.slice q1a q1n q1c, .slice q2a q2n q2c, .slice q3a q3n q3c, .slice q4a q4n q4c] 64 (0, 0))) (List.mem_cons_self ..); dsimp only at y; obtain ⟨m0, m1, m2, m3, -⟩ := cells4 (b := s + 1 + 1 + 1) y; unfold calmAt calmUpon; go_simp; rfl)); (simp only [Act.put, List.setIfInBounds_toArray, List.set_cons_succ, List.set_cons_zero]))
    refine chain_write (by kernel_rfl) rfl 0 rfl (by rfl) ?_
    apply Exists.intro
    refine ⟨fun ww hww => ?_, ?_⟩
    focus
      obtain rfl : ww = wc.drew := hww
      unfold calmAt calmUpon
      go_simp
      refine (AGR.out _ (Below.refl _ _)).mono ?_
      rintro e w1 ⟨rfl, hb1⟩
      exact ⟨rfl, hb1⟩
    (simp only [Act.put, List.setIfInBounds_toArray, List.set_cons_succ, List.set_cons_zero])
    iterate 2 (refine chain_pure rfl rfl ?_; apply Exists.intro; refine ⟨fun ww => ?_, ?_⟩; (focus (unfold calmAt calmUpon; go_simp; rfl)); (simp only [Act.put, List.setIfInBounds_toArray, List.set_cons_succ, List.set_cons_zero]))
    refine chain_write (by kernel_rfl) rfl 1 rfl (by rfl) ?_
    apply Exists.intro
    refine ⟨fun ww hww => ?_, ?_⟩
    focus
      have bb := twoB_lt (by omega) hww
      have y := (PX.out ww bb).at_ (x := (s + 2, .cells #[.slice none 0 0, .slice none 0 0, .slice none 0 0, .slice none 0 0] 64 (0, 0))) (by rw [HKK.out]; simp)
      dsimp only at y
      obtain ⟨t0, t1, t2, t3, -⟩ := cells4 (b := s + 1 + 1) y
      have g0 := frozen_blk (g := s + 1 + 1) y 0
      have g1 := frozen_blk (g := s + 1 + 1) y 1
      have g2 := frozen_blk (g := s + 1 + 1) y 2
      have g3 := frozen_blk (g := s + 1 + 1) y 3
      unfold calmAt calmUpon
      go_simp
      exact ⟨rfl, ww, bb, rfl⟩
    (simp only [Act.put, List.setIfInBounds_toArray, List.set_cons_succ, List.set_cons_zero])
    (refine chain_pure rfl rfl ?_; apply Exists.intro; refine ⟨fun ww => ?_, ?_⟩; (focus (unfold calmAt calmUpon; go_simp; rfl)); (simp only [Act.put, List.setIfInBounds_toArray, List.set_cons_succ, List.set_cons_zero]))
    refine calm_nil ?_
    rintro ww ⟨w1, hw1, hww⟩
    have hfi := FI.out w1 hw1
    go_wp2_with fail
    have hfi2 : PS H w0 p A' RN' ((s + 2, .cells #[.slice q1a q1n q1c, .slice q2a q2n q2c, .slice q3a q3n q3c, .slice q4a q4n q4c] 64 (0, 0)) :: kept) ww := by rw [hww]; exact hfi
    have zz := hfi2.at_ (List.mem_cons_self ..)
    dsimp only at zz
    obtain ⟨z0, z1, z2, z3, -⟩ := cells4 (b := s + 1 + 1) zz
    exact bodyPost_ret (v := .tuple #[.pointer (some ⟨p, 0, none⟩), .agg #[.slice q1a q1n q1c, .slice q2a q2n q2c, .slice q3a q3n q3c, .slice q4a q4n q4c], .bool true]) (by simp [results, Try.results24, go_sem, z0, z1, z2, z3]) rfl ⟨p, A', RN', by rw [HV2.out], HPR.out, hfi2.sub fun y hy => List.mem_cons_of_mem _ hy⟩
end Go.Proofs.Ytiindnmelegkgaa

/- launch: one of the calls that put a packet in flight, on both networks. -/
import Derived.Test.YtiindnmelegkgaaD1
import Derived.Test.YtiindnmelegkgaaC1
namespace Go.Proofs.Ytiindnmelegkgaa
open Go.RowKit Go.Shelf
set_option linter.unusedSimpArgs false
set_option linter.unusedVariables false

def ActA.val (x : ActA) : Value := .agg #[.int .i64 x.what, .int .i64 x.id, .int .i64 x.off, .int .u8 x.m, .string x.p.frm, .string x.p.to, x.p.bv]
def launchA (A : Abs) (x : ActA) : Abs × Int × Int := if x.what = 2 then A.inject x.p.abs else if x.what = 3 then A.replay x.id else if x.what = 4 then A.dup x.id else A.send x.p.abs
def launchR (R : RAbs) (x : ActA) : RAbs × Int × Int := if x.what = 2 then R.inject x.p.abs else if x.what = 3 then R.replay x.id else if x.what = 4 then R.dup x.id else R.send x.p.abs
theorem Pair.launch {A : Abs} {R : RAbs} {i : Nat} (h : Pair A R i) (x : ActA) (hb : ByteL x.p.bs) : (launchA A x).2 = (launchR R x).2 ∧ Pair (launchA A x).1 (launchR R x).1 (i + 2) := by
  unfold launchA launchR
  split
  · exact h.inject _ hb
  · split
    · exact h.replay _
    · split
      · exact h.dup _
      · exact h.send _ hb

section
variable {w0 w w' : World} {p : Nat} {A : Abs} {RN : RNet} {kept : List (Nat × Obj)} {H : Hold}
theorem PS.put4 {B : Nat} {a0 a1 a2 a3 : Value} {t : TypeId} (h : PS H w0 p A RN ((B, .cells #[a0, a1, a2, a3] t (0, 0)) :: kept) w) (hB : w0.heap.size ≤ B) (hn : ∀ x ∈ kept, x.1 ≠ B) (c0 c1 c2 c3 : Value) :
    PS H w0 p A RN ((B, .cells #[c0, c1, c2, c3] t (0, 0)) :: kept) ((((w.setCell ⟨B, 0, none⟩ c0).setCell ⟨B, 1, none⟩ c1).setCell ⟨B, 2, none⟩ c2).setCell ⟨B, 3, none⟩ c3) := by
  have := (((h.put hB hn 0 c0).put hB hn 1 c1).put hB hn 2 c2).put hB hn 3 c3
  simpa using this
/-- The bytes that were laid just now are kept, too. -/
theorem PS.keepq (h : PS H w0 p A RN kept w) (hb : Below w.heap.size w w') {bv : Value} {bs : List Int} (ho : ownB w' bv bs) (hf : ∀ b, bv.ownBlock = some b → w.heap.size ≤ b) :
    ∃ KQ, PS H w0 p A RN (KQ ++ kept) w' ∧ (∀ b, bv.ownBlock = some b → ∃ x ∈ KQ, x.1 = b) ∧ (∀ x ∈ KQ, bv.ownBlock = some x.1 ∧ w.heap.size ≤ x.1) := by
  have h' := h.below hb
  obtain ⟨ρ, N, R, hA, hk, h0, hb0, h1, h2, hH⟩ := h
  rcases ho.2 with ⟨rfl, _⟩ | ⟨g, cap, cur, rfl, _, hg, _⟩
  · exact ⟨[], h', by simp [Value.ownBlock], by simp⟩
  · have hgw : w.heap.size ≤ g := hf g rfl
    refine ⟨[(g, .cells cur 5 (0, 0))], ?_, fun b hb' => ⟨_, List.mem_singleton.2 rfl, by simpa [Value.ownBlock] using hb'⟩, fun x hx => by rw [List.mem_singleton.1 hx]; exact ⟨rfl, hgw⟩⟩
    refine ⟨ρ, N, R.below hb, hA, fun x hx => ?_, h0, hb0.trans (hb.mono hb0.size), h1.below hb, h2, hH.below hb⟩
    rcases List.mem_cons.1 hx with rfl | hx
    · exact ⟨hg, R.far g hgw, fun hr => by have := h1.lt hr; dsimp only at this; omega, fun hg => by have := (hH.2 _ hg).2.1; dsimp only at this; omega⟩
    · exact ⟨(hb.block _ (Array.getElem?_eq_some_iff.1 (hk x hx).1).1).trans (hk x hx).1, (hk x hx).2⟩
theorem PS.bumped {KQ : List (Nat × Obj)} {bv : Value} {n : Nat} {wr : World} (h : PS H w0 p A RN (KQ ++ kept) w) (hB : Bumped w wr bv n) (hq : ∀ b, bv.ownBlock = some b → (∃ x ∈ KQ, x.1 = b) ∧ w0.heap.size ≤ b) (hk' : ∀ x ∈ kept, bv.ownBlock ≠ some x.1) : PS H w0 p A RN kept wr := by
  obtain ⟨ρ, N, R, hA, hk, h0, hb0, h1, h2, hH⟩ := h
  have hne : ∀ b, bv.ownBlock = some b → ρ b = 0 ∧ ¬ RB RN b ∧ ¬ H.G b := fun b hb => by
    obtain ⟨x, hx, rfl⟩ := (hq b hb).1
    exact (hk x (List.mem_append_left _ hx)).2
  refine ⟨ρ, N, R.stays (by rw [hB.size]; exact Nat.le_refl _) (fun b hb => hB.same b fun e => hb (hne b e).1), hA, fun x hx => ?_, h0, ⟨hB.os.trans hb0.os, hB.tape.trans hb0.tape, hB.output.trans hb0.output, by rw [hB.size]; exact hb0.size, fun b hb => ?_⟩, h1.stays fun b hb => hB.same b fun e => (hne b e).2.1 hb, h2, hH.stays (by rw [hB.size]; exact Nat.le_refl _) fun b hb => hB.same b fun e => (hne b e).2.2 hb⟩
  · have := hk x (List.mem_append_right _ hx)
    exact ⟨(hB.same x.1 (hk' x hx)).trans this.1, this.2⟩
  · rw [hB.same b fun e => by have := (hq b e).2; omega]
    exact hb0.block b hb
end

/-- Behind the switch of launch. -/
def LRel (H : Hold) (w0 : World) (p s : Nat) (AA : Abs) (RR : RAbs) (KK : List (Nat × Obj)) (s8 s9 s10 s11 : Value) (wx : World) : Prop :=
  ∃ (idv er : Int) (RN' : RNet), s8 = .int .i64 idv ∧ s9 = .int .i64 idv ∧ s10 = .int .i64 er ∧ s11 = .int .i64 er ∧ RN'.abs = RR ∧ PS H w0 p AA RN' ((s + 3, .cells #[RN'.va, RN'.vh, RN'.ve, RN'.vb] 64 (0, 0)) :: KK) wx

set_option maxHeartbeats 8000000 in
set_option maxRecDepth 100000 in
theorem launch_ok {H : Hold} {w0 w : World} {p : Nat} {A : Abs} {RN : RNet} {kept : List (Nat × Obj)} {i : Nat} (h : PS H w0 p A RN kept w) (P : Pair A RN.abs i) (hi : i ≤ 100000) (x : ActA) (hx : ActOk w0 x) (hf : x.few = true) :
    Calls Try.prog 46 #[.pointer (some ⟨p, 0, none⟩), RN.val, x.val] w fun e w' => ∃ RN', e = .returned (.tuple #[RN'.val, .bool true]) ∧ RN'.abs = (launchR RN.abs x).1 ∧ PS H w0 p (launchA A x).1 RN' kept w' := by
  have S := P.rsmall (by omega)
  have T := P.cons.tiny (by omega)
  have hlt : RN.all.length < 1000000 := by
    have h1 : RN.abs.all.length = A.next := P.sim.next.symm
    have h2 := P.cons.next
    rw [abs_len] at h1
    omega
  have hl100 : x.p.bs.length ≤ 100 := by simp only [ActA.few, Bool.and_eq_true, decide_eq_true_eq] at hf; exact hf.2
  obtain ⟨⟨a1, n1, k1, ha1⟩, ⟨a2, n2, k2, ha2⟩, ⟨a3, n3, k3, ha3⟩, ⟨a4, n4, k4, ha4⟩⟩ := h.rok.forms
  have HVAL : Hid (RN.val = .agg #[.slice a1 n1 k1, .slice a2 n2 k2, .slice a3 n3 k3, .slice a4 n4 k4]) := Lib.hid (by unfold RNet.val; rw [ha1, ha2, ha3, ha4])
  obtain ⟨ba, bc, hbv⟩ := hx.sl
  obtain ⟨bn, hbn⟩ : ∃ bn, x.p.bs.length = bn := ⟨_, rfl⟩
  rw [hbn] at hbv
  obtain ⟨s, hs⟩ : ∃ s, w.heap.size = s := ⟨_, rfl⟩
  -- the boxes
  have h1 := ((((h.box (.cells #[.slice a1 n1 k1, .slice a2 n2 k2, .slice a3 n3 k3, .slice a4 n4 k4] 64)).box (.cells #[.int .i64 x.what, .int .i64 x.id, .int .i64 x.off, .int .u8 x.m, .string x.p.frm, .string x.p.to, .slice ba bn bc] 42)).box (.cells #[.slice none 0 0, .slice none 0 0, .slice none 0 0, .slice none 0 0] 64)).box (.cells #[.slice none 0 0, .slice none 0 0, .slice none 0 0, .slice none 0 0] 64))
  obtain ⟨W0, hW0⟩ : ∃ W0, W0 = (((w.alloc (.cells #[.slice a1 n1 k1, .slice a2 n2 k2, .slice a3 n3 k3, .slice a4 n4 k4] 64)).alloc (.cells #[.int .i64 x.what, .int .i64 x.id, .int .i64 x.off, .int .u8 x.m, .string x.p.frm, .string x.p.to, .slice ba bn bc] 42)).alloc (.cells #[.slice none 0 0, .slice none 0 0, .slice none 0 0, .slice none 0 0] 64)).alloc (.cells #[.slice none 0 0, .slice none 0 0, .slice none 0 0, .slice none 0 0] 64) := ⟨_, rfl⟩
  rw [← hW0] at h1
  simp only [World.size_alloc, hs] at h1
  have rd0 : rdB W0 x.p.bv x.p.bs := (hx.rd hl100).below h1.lower
  obtain ⟨bv', W1, o1, f1, b1, call1⟩ := rown_run x.p W0 rd0
  obtain ⟨KQ, h2, hq1, hq2⟩ := h1.keepq b1 o1 f1
  obtain ⟨va, vc, hv'⟩ := ownB_slice o1
  have h3 := h2.box (.cells #[.string x.p.frm, .string x.p.to, bv'] 35)
  obtain ⟨D, hD⟩ : ∃ D, W1.heap.size = D := ⟨_, rfl⟩
  obtain ⟨W2, hW2⟩ : ∃ W2, W2 = W1.alloc (.cells #[.string x.p.frm, .string x.p.to, bv'] 35) := ⟨_, rfl⟩
  rw [← hW2, hD] at h3
  have o2 : ownB W2 bv' x.p.bs := by rw [hW2]; exact o1.alloc _
  have z0 : W0.heap.size = s + 4 := by rw [hW0, ← hs]; simp
  have hw0s : w0.heap.size ≤ s := by rw [← hs]; exact h.lower.size
  have hD4 : s + 4 ≤ D := by rw [← z0, ← hD]; exact b1.size
  have h4 : PS H w0 p A RN ((s + 3, .cells #[.slice none 0 0, .slice none 0 0, .slice none 0 0, .slice none 0 0] 64 (0, 0)) :: (KQ ++ ((D, .cells #[.string x.p.frm, .string x.p.to, .slice va bn vc] 35 (0, 0)) :: (s + 2, .cells #[.slice none 0 0, .slice none 0 0, .slice none 0 0, .slice none 0 0] 64 (0, 0)) :: (s + 1, .cells #[.int .i64 x.what, .int .i64 x.id, .int .i64 x.off, .int .u8 x.m, .string x.p.frm, .string x.p.to, .slice ba bn bc] 42 (0, 0)) :: (s, .cells #[.slice a1 n1 k1, .slice a2 n2 k2, .slice a3 n3 k3, .slice a4 n4 k4] 64 (0, 0)) :: kept))) W2 := by
    rw [hv', hbn] at h3
    refine h3.sub fun y hy => ?_
    simp only [List.mem_cons, List.mem_append] at hy ⊢
    rcases hy with h | h | h | h | h | h | h
    · exact .inr (.inr (.inl h))
    · exact .inr (.inl h)
    · exact .inl h
    · exact .inr (.inr (.inr (.inl h)))
    · exact .inr (.inr (.inr (.inr (.inl h))))
    · exact .inr (.inr (.inr (.inr (.inr (.inl h)))))
    · exact .inr (.inr (.inr (.inr (.inr (.inr h)))))
  have NE : Hid (∀ y ∈ (KQ ++ ((D, Obj.cells #[.string x.p.frm, .string x.p.to, .slice va bn vc] 35 (0, 0)) :: (s + 2, .cells #[.slice none 0 0, .slice none 0 0, .slice none 0 0, .slice none 0 0] 64 (0, 0)) :: (s + 1, .cells #[.int .i64 x.what, .int .i64 x.id, .int .i64 x.off, .int .u8 x.m, .string x.p.frm, .string x.p.to, .slice ba bn bc] 42 (0, 0)) :: (s, .cells #[.slice a1 n1 k1, .slice a2 n2 k2, .slice a3 n3 k3, .slice a4 n4 k4] 64 (0, 0)) :: kept)), y.1 ≠ s + 3) := Lib.hid fun y hy => by
    simp only [List.mem_cons, List.mem_append] at hy
    rcases hy with hy | rfl | rfl | rfl | rfl | hy
    · have := (hq2 y hy).2; omega
    · show D ≠ s + 3; omega
    · show s + 2 ≠ s + 3; omega
    · show s + 1 ≠ s + 3; omega
    · show s ≠ s + 3; omega
    · have := (Array.getElem?_eq_some_iff.1 (h.at_ hy)).1; omega
  have NK : Hid (∀ y ∈ kept, y.1 < s) := Lib.hid fun y hy => by have := (Array.getElem?_eq_some_iff.1 (h.at_ hy)).1; omega
  obtain ⟨KK, hKK⟩ : ∃ KK, KK = (KQ ++ ((D, Obj.cells #[.string x.p.frm, .string x.p.to, .slice va bn vc] 35 (0, 0)) :: (s + 2, .cells #[.slice none 0 0, .slice none 0 0, .slice none 0 0, .slice none 0 0] 64 (0, 0)) :: (s + 1, .cells #[.int .i64 x.what, .int .i64 x.id, .int .i64 x.off, .int .u8 x.m, .string x.p.frm, .string x.p.to, .slice ba bn bc] 42 (0, 0)) :: (s, .cells #[.slice a1 n1 k1, .slice a2 n2 k2, .slice a3 n3 k3, .slice a4 n4 k4] 64 (0, 0)) :: kept)) := ⟨_, rfl⟩
  rw [← hKK] at h4 NE
  have ACTC : Hid (∀ AA NN ob ww, PS H w0 p AA NN (ob :: KK) ww → ww.cell? ⟨s + 1, 0, none⟩ = some (.int .i64 x.what) ∧ ww.cell? ⟨s + 1, 1, none⟩ = some (.int .i64 x.id) ∧ ww.cell? ⟨s + 1, 4, none⟩ = some (.string x.p.frm) ∧ ww.cell? ⟨s + 1, 5, none⟩ = some (.string x.p.to) ∧ ww.cell? ⟨s + 1, 6, none⟩ = some (.slice ba bn bc)) := Lib.hid fun AA NN ob ww hww => by
    have y := hww.at_ (x := (s + 1, .cells #[.int .i64 x.what, .int .i64 x.id, .int .i64 x.off, .int .u8 x.m, .string x.p.frm, .string x.p.to, .slice ba bn bc] 42 (0, 0))) (by rw [hKK]; simp)
    dsimp only at y
    exact ⟨by rw [cell_of_row _ _ _ _ _ _ y]; rfl, by rw [cell_of_row _ _ _ _ _ _ y]; rfl, by rw [cell_of_row _ _ _ _ _ _ y]; rfl, by rw [cell_of_row _ _ _ _ _ _ y]; rfl, by rw [cell_of_row _ _ _ _ _ _ y]; rfl⟩
  have REFC : Hid (∀ AA NN ob ww, PS H w0 p AA NN (ob :: KK) ww → ww.cell? ⟨s, 0, none⟩ = some (.slice a1 n1 k1) ∧ ww.cell? ⟨s, 1, none⟩ = some (.slice a2 n2 k2) ∧ ww.cell? ⟨s, 2, none⟩ = some (.slice a3 n3 k3) ∧ ww.cell? ⟨s, 3, none⟩ = some (.slice a4 n4 k4)) := Lib.hid fun AA NN ob ww hww => by
    have y := hww.at_ (x := (s, .cells #[.slice a1 n1 k1, .slice a2 n2 k2, .slice a3 n3 k3, .slice a4 n4 k4] 64 (0, 0))) (by rw [hKK]; simp)
    dsimp only at y
    exact ⟨by rw [cell_of_row _ _ _ _ _ _ y]; rfl, by rw [cell_of_row _ _ _ _ _ _ y]; rfl, by rw [cell_of_row _ _ _ _ _ _ y]; rfl, by rw [cell_of_row _ _ _ _ _ _ y]; rfl⟩
  have OWNC : Hid (∀ AA NN ob ww, PS H w0 p AA NN (ob :: KK) ww → ww.cell? ⟨D, 0, none⟩ = some (.string x.p.frm) ∧ ww.cell? ⟨D, 1, none⟩ = some (.string x.p.to) ∧ ww.cell? ⟨D, 2, none⟩ = some (.slice va bn vc)) := Lib.hid fun AA NN ob ww hww => by
    have y := hww.at_ (x := (D, .cells #[.string x.p.frm, .string x.p.to, .slice va bn vc] 35 (0, 0))) (by rw [hKK]; simp)
    dsimp only at y
    exact ⟨by rw [cell_of_row _ _ _ _ _ _ y]; rfl, by rw [cell_of_row _ _ _ _ _ _ y]; rfl, by rw [cell_of_row _ _ _ _ _ _ y]; rfl⟩
  have OWNB : Hid (∀ AA NN ob ww, PS H w0 p AA NN (ob :: KK) ww → ownB ww bv' x.p.bs) := Lib.hid fun AA NN ob ww hww => row_stays o2 fun b hb => by
    obtain ⟨y, hy, rfl⟩ := hq1 b hb
    have m1 := hww.at_ (x := y) (by rw [hKK]; simp [hy])
    have m2 := h4.at_ (x := y) (by rw [hKK]; simp [hy])
    rw [m1, m2]
  have HELD : Hid (∀ ob, Held w0 (ob :: KK) { x.p with bv := bv' }) := Lib.hid fun ob _ b hb => by
    obtain ⟨y, hy, rfl⟩ := hq1 b hb
    exact .inr ⟨y, by rw [hKK]; simp [hy], rfl⟩
  have HX := Lib.hid hx
  have HP := Lib.hid P
  have HT := Lib.hid T
  have HBV := Lib.hid hbv
  have HBN := Lib.hid hbn
  have H4 := Lib.hid h4
  have HC1 := Lib.hid call1
  have HW0 := Lib.hid hW0
  have HW2 := Lib.hid hW2
  have HS := Lib.hid hs
  have HDD := Lib.hid hD
  have HV := Lib.hid hv'
  have HQ1 := Lib.hid hq1
  have HQ2 := Lib.hid hq2
  have HKK := Lib.hid hKK
  have HAB := Lib.hid P.sim
  clear h h1 h2 h3 h4 P T S hx hf ha1 ha2 ha3 ha4 hbv hbn hs hW0 rd0 o1 f1 b1 call1 hq1 hq2 hv' hD hW2 o2 z0 hKK
  unfold ActA.val
  rw [HVAL.out, HBV.out]
  obtain ⟨wh, hwh⟩ : ∃ wh, x.what = wh := ⟨_, rfl⟩
  rw [hwh] at ACTC HW0 ⊢
  have HWH := Lib.hid hwh
  clear hwh
  unfold Pk.val at HC1
  dsimp only at HC1
  rw [HV.out, HBV.out, HBN.out] at HC1
  rw [HV.out, HBN.out] at HW2
  go_enter Try.func46, Try.ntmps46
  go_upto_block 0 with fail
  rw [← HW0.out, HS.out]
  refine HC1.out.mono ?_
  rintro e w1 ⟨rfl, rfl⟩
  obtain ⟨ac0, -⟩ := ACTC.out _ _ _ _ H4.out
  rw [HW2.out] at ac0
  go_upto_block 0 with fail
  rw [← HW2.out, HDD.out]
  clear ac0
  go_cut [8, 9, 10, 11] from 20 to 83 (fun s8 s9 s10 s11 wx => LRel H w0 p s (launchA A x).1 (launchR RN.abs x).1 KK s8 s9 s10 s11 wx)
  case first =>
    obtain ⟨c0, c1, c4, c5, c6⟩ := ACTC.out _ _ _ _ H4.out
    obtain ⟨o0, o1, o2⟩ := OWNC.out _ _ _ _ H4.out
    have RD := Lib.hid (ownB_rd (OWNB.out _ _ _ _ H4.out) (by omega))
    have FINL : Hid (∀ AA RR W3 W4 RN', PS H w0 p AA RN ((s + 3, .cells #[.slice none 0 0, .slice none 0 0, .slice none 0 0, .slice none 0 0] 64 (0, 0)) :: KK) W3 → RNext W3 W4 RN RN' → RN'.abs = RR → ∀ idv er : Int, LRel H w0 p s AA RR KK (.int .i64 idv) (.int .i64 idv) (.int .i64 er) (.int .i64 er) ((((W4.setCell ⟨s + 3, 0, none⟩ RN'.va).setCell ⟨s + 3, 1, none⟩ RN'.vh).setCell ⟨s + 3, 2, none⟩ RN'.ve).setCell ⟨s + 3, 3, none⟩ RN'.vb)) := Lib.hid fun AA RR W3 W4 RN' h1 h2 h3 idv er =>
      ⟨idv, er, RN', rfl, rfl, rfl, rfl, h3, (h1.ref h2).put4 (by omega) NE.out _ _ _ _⟩
    by_cases h2 : wh = 2
    · subst h2
      have hL : launchA A x = A.inject x.p.abs ∧ launchR RN.abs x = RN.abs.inject x.p.abs := by simp [launchA, launchR, HWH.out]
      have HL := Lib.hid hL
      have CL : Hid (Calls Try.prog 13 #[.pointer (some ⟨p, 0, none⟩), .agg #[.string x.p.frm, .string x.p.to, .slice va bn vc]] W2 (POut1 H w0 p RN ((s + 3, .cells #[.slice none 0 0, .slice none 0 0, .slice none 0 0, .slice none 0 0] 64 (0, 0)) :: KK) (A.inject x.p.abs))) := Lib.hid (by
        have this := H4.out.inject HT.out { x.p with bv := bv' } RD.out (HELD.out _)
        unfold Pk.val at this
        dsimp only at this
        rw [HV.out, HBN.out] at this
        exact this)
      have hE := (HP.out.inject x.p.abs HX.out.byt).1
      clear hL
      go_wp2_with fail
      refine CL.out.mono ?_
      rintro e W3 ⟨he, hP3⟩
      rw [hE] at he
      subst he
      clear c0 c1 c4 c5 c6 o0 o1 o2
      obtain ⟨c0, c1, c4, c5, c6⟩ := ACTC.out _ _ _ _ hP3
      obtain ⟨r0, r1, r2, r3⟩ := REFC.out _ _ _ _ hP3
      have RC := Lib.hid (rinject_any RN W3 hP3.rok (HP.out.rsmall (by omega)) x.p ((HX.out.rd hl100).below hP3.lower) hlt)
      unfold Pk.val at RC
      rw [HBV.out, HVAL.out] at RC
      have HP3 := Lib.hid hP3
      clear hP3 hE
      go_wp2_with fail
      refine RC.out.mono ?_
      rintro e W4 ⟨RN', rfl, hN, hab⟩
      obtain ⟨⟨q1a, q1n, q1c, e1⟩, ⟨q2a, q2n, q2c, e2⟩, ⟨q3a, q3n, q3c, e3⟩, ⟨q4a, q4n, q4c, e4⟩⟩ := hN.ok.forms
      have hv : RN'.val = .agg #[.slice q1a q1n q1c, .slice q2a q2n q2c, .slice q3a q3n q3c, .slice q4a q4n q4c] := by unfold RNet.val; rw [e1, e2, e3, e4]
      have FI := FINL.out _ _ W3 W4 RN' HP3.out hN hab
      rw [e1, e2, e3, e4] at FI
      have y3 := (HP3.out.ref hN).at_ (List.mem_cons_self ..)
      dsimp only at y3
      have g0 := frozen_blk (g := s + 1 + 1 + 1) y3 0
      have g1 := frozen_blk (g := s + 1 + 1 + 1) y3 1
      have g2 := frozen_blk (g := s + 1 + 1 + 1) y3 2
      have g3 := frozen_blk (g := s + 1 + 1 + 1) y3 3
      obtain ⟨t0, t1, t2, t3, -⟩ := cells4 (b := s + 1 + 1 + 1) y3
      have HFI := Lib.hid FI
      rw [hv]
      clear FI y3 e1 e2 e3 e4 hv hN hab
      go_wp2_with fail
      go_meet
      rw [HL.out.1, HL.out.2]
      exact HFI.out _ _
    by_cases h3 : wh = 3
    · subst h3
      have hL : launchA A x = A.replay x.id ∧ launchR RN.abs x = RN.abs.replay x.id := by simp [launchA, launchR, HWH.out]
      have HL := Lib.hid hL
      have CL := Lib.hid (H4.out.replay HT.out x.id)
      have hE := (HP.out.replay x.id).1
      clear hL
      go_wp2_with fail
      refine CL.out.mono ?_
      rintro e W3 ⟨he, hP3⟩
      rw [hE] at he
      subst he
      clear c0 c1 c4 c5 c6 o0 o1 o2
      obtain ⟨c0, c1, c4, c5, c6⟩ := ACTC.out _ _ _ _ hP3
      obtain ⟨r0, r1, r2, r3⟩ := REFC.out _ _ _ _ hP3
      have RC := Lib.hid (rreplay_all hP3.rok (HP.out.rsmall (by omega)) x.id hlt)
      rw [HVAL.out] at RC
      have HP3 := Lib.hid hP3
      clear hP3 hE
      go_wp2_with fail
      refine RC.out.mono ?_
      rintro e W4 ⟨RN', rfl, hN, hab⟩
      obtain ⟨⟨q1a, q1n, q1c, e1⟩, ⟨q2a, q2n, q2c, e2⟩, ⟨q3a, q3n, q3c, e3⟩, ⟨q4a, q4n, q4c, e4⟩⟩ := hN.ok.forms
      have hv : RN'.val = .agg #[.slice q1a q1n q1c, .slice q2a q2n q2c, .slice q3a q3n q3c, .slice q4a q4n q4c] := by unfold RNet.val; rw [e1, e2, e3, e4]
      have FI := FINL.out _ _ W3 W4 RN' HP3.out hN hab
      rw [e1, e2, e3, e4] at FI
      have y3 := (HP3.out.ref hN).at_ (List.mem_cons_self ..)
      dsimp only at y3
      have g0 := frozen_blk (g := s + 1 + 1 + 1) y3 0
      have g1 := frozen_blk (g := s + 1 + 1 + 1) y3 1
      have g2 := frozen_blk (g := s + 1 + 1 + 1) y3 2
      have g3 := frozen_blk (g := s + 1 + 1 + 1) y3 3
      obtain ⟨t0, t1, t2, t3, -⟩ := cells4 (b := s + 1 + 1 + 1) y3
      have HFI := Lib.hid FI
      rw [hv]
      clear FI y3 e1 e2 e3 e4 hv hN hab
      go_wp2_with fail
      go_meet
      rw [HL.out.1, HL.out.2]
      exact HFI.out _ _
    by_cases h4 : wh = 4
    · subst h4
      have hL : launchA A x = A.dup x.id ∧ launchR RN.abs x = RN.abs.dup x.id := by simp [launchA, launchR, HWH.out]
      have HL := Lib.hid hL
      have CL := Lib.hid (H4.out.dup HT.out x.id HX.out.id)
      have hE := (HP.out.dup x.id).1
      clear hL
      go_wp2_with fail
      refine CL.out.mono ?_
      rintro e W3 ⟨he, hP3⟩
      rw [hE] at he
      subst he
      clear c0 c1 c4 c5 c6 o0 o1 o2
      obtain ⟨c0, c1, c4, c5, c6⟩ := ACTC.out _ _ _ _ hP3
      obtain ⟨r0, r1, r2, r3⟩ := REFC.out _ _ _ _ hP3
      have RC := Lib.hid (rdup_all hP3.rok (HP.out.rsmall (by omega)) x.id hlt)
      rw [HVAL.out] at RC
      have HP3 := Lib.hid hP3
      clear hP3 hE
      go_wp2_with fail
      refine RC.out.mono ?_
      rintro e W4 ⟨RN', rfl, hN, hab⟩
      obtain ⟨⟨q1a, q1n, q1c, e1⟩, ⟨q2a, q2n, q2c, e2⟩, ⟨q3a, q3n, q3c, e3⟩, ⟨q4a, q4n, q4c, e4⟩⟩ := hN.ok.forms
      have hv : RN'.val = .agg #[.slice q1a q1n q1c, .slice q2a q2n q2c, .slice q3a q3n q3c, .slice q4a q4n q4c] := by unfold RNet.val; rw [e1, e2, e3, e4]
      have FI := FINL.out _ _ W3 W4 RN' HP3.out hN hab
      rw [e1, e2, e3, e4] at FI
      have y3 := (HP3.out.ref hN).at_ (List.mem_cons_self ..)
      dsimp only at y3
      have g0 := frozen_blk (g := s + 1 + 1 + 1) y3 0
      have g1 := frozen_blk (g := s + 1 + 1 + 1) y3 1
      have g2 := frozen_blk (g := s + 1 + 1 + 1) y3 2
      have g3 := frozen_blk (g := s + 1 + 1 + 1) y3 3
      obtain ⟨t0, t1, t2, t3, -⟩ := cells4 (b := s + 1 + 1 + 1) y3
      have HFI := Lib.hid FI
      rw [hv]
      clear FI y3 e1 e2 e3 e4 hv hN hab
      go_wp2_with fail
      go_meet
      rw [HL.out.1, HL.out.2]
      exact HFI.out _ _
    have hL : launchA A x = A.send x.p.abs ∧ launchR RN.abs x = RN.abs.send x.p.abs := by simp [launchA, launchR, HWH.out, h2, h3, h4]
    have HL := Lib.hid hL
    have CL : Hid (Calls Try.prog 10 #[.pointer (some ⟨p, 0, none⟩), .agg #[.string x.p.frm, .string x.p.to, .slice va bn vc]] W2 (POut1 H w0 p RN ((s + 3, .cells #[.slice none 0 0, .slice none 0 0, .slice none 0 0, .slice none 0 0] 64 (0, 0)) :: KK) (A.send x.p.abs))) := Lib.hid (by
      have this := H4.out.send HT.out { x.p with bv := bv' } RD.out (HELD.out _)
      unfold Pk.val at this
      dsimp only at this
      rw [HV.out, HBN.out] at this
      exact this)
    have hE := (HP.out.send x.p.abs HX.out.byt).1
    clear hL
    go_wp2_with fail
    refine CL.out.mono ?_
    rintro e W3 ⟨he, hP3⟩
    rw [hE] at he
    subst he
    clear c0 c1 c4 c5 c6 o0 o1 o2
    obtain ⟨c0, c1, c4, c5, c6⟩ := ACTC.out _ _ _ _ hP3
    obtain ⟨r0, r1, r2, r3⟩ := REFC.out _ _ _ _ hP3
    have RC := Lib.hid (rsend_all hP3.rok (HP.out.rsmall (by omega)) x.p ((HX.out.rd hl100).below hP3.lower) hlt)
    unfold Pk.val at RC
    rw [HBV.out, HVAL.out] at RC
    have HP3 := Lib.hid hP3
    clear hP3 hE
    go_wp2_with fail
    refine RC.out.mono ?_
    rintro e W4 ⟨RN', rfl, hN, hab⟩
    obtain ⟨⟨q1a, q1n, q1c, e1⟩, ⟨q2a, q2n, q2c, e2⟩, ⟨q3a, q3n, q3c, e3⟩, ⟨q4a, q4n, q4c, e4⟩⟩ := hN.ok.forms
    have hv : RN'.val = .agg #[.slice q1a q1n q1c, .slice q2a q2n q2c, .slice q3a q3n q3c, .slice q4a q4n q4c] := by unfold RNet.val; rw [e1, e2, e3, e4]
    have FI := FINL.out _ _ W3 W4 RN' HP3.out hN hab
    rw [e1, e2, e3, e4] at FI
    have y3 := (HP3.out.ref hN).at_ (List.mem_cons_self ..)
    dsimp only at y3
    have g0 := frozen_blk (g := s + 1 + 1 + 1) y3 0
    have g1 := frozen_blk (g := s + 1 + 1 + 1) y3 1
    have g2 := frozen_blk (g := s + 1 + 1 + 1) y3 2
    have g3 := frozen_blk (g := s + 1 + 1 + 1) y3 3
    obtain ⟨t0, t1, t2, t3, -⟩ := cells4 (b := s + 1 + 1 + 1) y3
    have HFI := Lib.hid FI
    rw [hv]
    clear FI y3 e1 e2 e3 e4 hv hN hab
    go_wp2_with fail
    go_meet
    rw [HL.out.1, HL.out.2]
    exact HFI.out _ _
  case rest =>
    obtain ⟨idv, er, RN', rfl, rfl, rfl, rfl, hab, hPS⟩ := hcut
    obtain ⟨⟨q1a, q1n, q1c, e1⟩, ⟨q2a, q2n, q2c, e2⟩, ⟨q3a, q3n, q3c, e3⟩, ⟨q4a, q4n, q4c, e4⟩⟩ := hPS.rok.forms
    have hv : RN'.val = .agg #[.slice q1a q1n q1c, .slice q2a q2n q2c, .slice q3a q3n q3c, .slice q4a q4n q4c] := by unfold RNet.val; rw [e1, e2, e3, e4]
    rw [e1, e2, e3, e4] at hPS
    have BU := Bumped.start (OWNB.out _ _ _ _ hPS)
    rw [HV.out, HBN.out] at BU
    have hq2 := HQ2.out
    have hq1 := HQ1.out
    rw [HV.out, HBN.out] at hq1 hq2
    have AFTER : Hid (∀ wr, Bumped wc wr (.slice va bn vc) bn → PS H w0 p (launchA A x).1 RN' ((s + 3, .cells #[.slice q1a q1n q1c, .slice q2a q2n q2c, .slice q3a q3n q3c, .slice q4a q4n q4c] 64 (0, 0)) :: (D, Obj.cells #[.string x.p.frm, .string x.p.to, .slice va bn vc] 35 (0, 0)) :: (s + 2, .cells #[.slice none 0 0, .slice none 0 0, .slice none 0 0, .slice none 0 0] 64 (0, 0)) :: kept) wr) := Lib.hid fun wr hB => by
      have hdq : ∀ b, (Value.slice va bn vc).ownBlock = some b → (∃ y ∈ KQ, y.1 = b) ∧ W0.heap.size ≤ b := fun b hb => by
        obtain ⟨y, hy, rfl⟩ := hq1 b hb
        exact ⟨⟨y, hy, rfl⟩, (hq2 y hy).2⟩
      have hz0 : W0.heap.size = s + 4 := by rw [HW0.out, ← HS.out]; simp
      have hP2 : PS H w0 p (launchA A x).1 RN' (KQ ++ ((s + 3, .cells #[.slice q1a q1n q1c, .slice q2a q2n q2c, .slice q3a q3n q3c, .slice q4a q4n q4c] 64 (0, 0)) :: (D, Obj.cells #[.string x.p.frm, .string x.p.to, .slice va bn vc] 35 (0, 0)) :: (s + 2, .cells #[.slice none 0 0, .slice none 0 0, .slice none 0 0, .slice none 0 0] 64 (0, 0)) :: kept)) wc := hPS.sub fun y hy => by
        rw [HKK.out]
        simp only [List.mem_cons, List.mem_append] at hy ⊢
        rcases hy with h | h | h | h | h
        · exact .inr (.inl h)
        · exact .inl h
        · exact .inr (.inr (.inl h))
        · exact .inr (.inr (.inr (.inl h)))
        · exact .inr (.inr (.inr (.inr (.inr (.inr h)))))
      refine hP2.bumped hB (fun b hb => ⟨(hdq b hb).1, by have := (hdq b hb).2; omega⟩) fun y hy hb => ?_
      have hge := (hdq _ hb).2
      simp only [List.mem_cons] at hy
      rcases hy with rfl | rfl | rfl | hy
      · dsimp only at hge; omega
      · have y1 := hPS.at_ (x := (D, .cells #[.string x.p.frm, .string x.p.to, .slice va bn vc] 35 (0, 0))) (by rw [HKK.out]; simp)
        dsimp only at y1 hb
        rcases (OWNB.out _ _ _ _ hPS).2 with ⟨h, _⟩ | ⟨g, cap, cur, h, _, h3, _⟩
        · rw [HV.out] at h
          simp only [Value.slice.injEq] at h
          rw [h.1] at hb
          cases hb
        · rw [HV.out] at h
          simp only [Value.slice.injEq] at h
          rw [h.1] at hb
          cases hb
          rw [y1] at h3
          cases h3
      · dsimp only at hge; omega
      · have := NK.out y hy; omega
    have OC : Hid (∀ wr, Bumped wc wr (.slice va bn vc) bn → wr.cell? ⟨D, 2, none⟩ = some (.slice va bn vc)) := Lib.hid fun wr hB => by
      have y := (AFTER.out wr hB).at_ (x := (D, Obj.cells #[.string x.p.frm, .string x.p.to, .slice va bn vc] 35 (0, 0))) (by simp)
      dsimp only at y
      rw [cell_of_row _ _ _ _ _ _ y]; rfl
    have HBU := Lib.hid BU
    have HV2 := Lib.hid hv
    have HAB2 := Lib.hid hab
    have hbn2 : bn ≤ 100 := by rw [← HBN.out]; exact hl100
    clear BU hq1 hq2 hPS e1 e2 e3 e4 hv hab
    go_wp2_with fail
    go_loopw [14] (fun i wr => ∃ k : Nat, i = .int .i64 k ∧ k ≤ bn ∧ Bumped wc wr (.slice va bn vc) bn) (fun i _ => bn - (intOf i).toNat)
    case atStart => exact ⟨0, rfl, Nat.zero_le _, HBU.out⟩
    case round =>
      obtain ⟨k, rfl, hk, hB⟩ := hrel
      have dc := OC.out wr hB
      by_cases hkl : k < bn
      · obtain ⟨g, rfl⟩ := hB.addr (by omega)
        obtain ⟨u, m0, g0, nx⟩ := hB.byte hkl
        have NX := Lib.hid nx
        clear nx hB
        go_wp2_with fail
        go_roundw
        case rel => exact ⟨k + 1, by simp, by omega, NX.out _⟩
        case measure => simp [intOf]; omega
      · obtain rfl : k = bn := by omega
        have hA := AFTER.out wr hB
        have y3 := hA.at_ (List.mem_cons_self ..)
        have y2 := hA.at_ (x := (s + 2, .cells #[.slice none 0 0, .slice none 0 0, .slice none 0 0, .slice none 0 0] 64 (0, 0))) (by simp)
        dsimp only at y3 y2
        obtain ⟨t0, t1, t2, t3, -⟩ := cells4 (b := s + 1 + 1 + 1) y3
        obtain ⟨v0, v1, v2, v3, -⟩ := cells4 (b := s + 1 + 1) y2
        have g0 := frozen_blk (g := s + 1 + 1) y2 0
        have g1 := frozen_blk (g := s + 1 + 1) y2 1
        have g2 := frozen_blk (g := s + 1 + 1) y2 2
        have g3 := frozen_blk (g := s + 1 + 1) y2 3
        have hA2 : PS H w0 p (launchA A x).1 RN' ((s + 2, .cells #[.slice none 0 0, .slice none 0 0, .slice none 0 0, .slice none 0 0] 64 (0, 0)) :: kept) wr := hA.sub fun y hy => by
          simp only [List.mem_cons] at hy ⊢
          rcases hy with h | h
          · exact .inr (.inr (.inl h))
          · exact .inr (.inr (.inr h))
        have FIN := hA2.put4 (by omega) (fun y hy => by have := NK.out y hy; omega) (.slice q1a q1n q1c) (.slice q2a q2n q2c) (.slice q3a q3n q3c) (.slice q4a q4n q4c)
        have HFIN := Lib.hid FIN
        clear FIN hA hA2 y3 y2
        go_wp2_with fail
        have zz := HFIN.out.at_ (List.mem_cons_self ..)
        dsimp only at zz
        obtain ⟨z0, z1, z2, z3, -⟩ := cells4 zz
        exact bodyPost_ret (v := .tuple #[.agg #[.slice q1a q1n q1c, .slice q2a q2n q2c, .slice q3a q3n q3c, .slice q4a q4n q4c], .bool true]) (by simp [results, Try.results46, go_sem, z0, z1, z2, z3]) rfl ⟨RN', by rw [HV2.out], HAB2.out, HFIN.out.sub fun y hy => List.mem_cons_of_mem _ hy⟩
end Go.Proofs.Ytiindnmelegkgaa

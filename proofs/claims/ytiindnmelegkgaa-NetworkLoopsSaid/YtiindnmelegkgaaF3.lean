/- flight: the walk. -/
import Derived.Test.YtiindnmelegkgaaF2
namespace Go.Proofs.Ytiindnmelegkgaa
open Go.RowKit Go.Shelf
set_option linter.unusedSimpArgs false
set_option linter.unusedVariables false
attribute [local go_sem] Oper.semAt_some

/-- The bytes of a packet that was handed out are written over. -/
structure Bumped (W wr : World) (bv : Value) (n : Nat) : Prop where
  os : wr.os = W.os
  tape : wr.tape = W.tape
  output : wr.output = W.output
  size : wr.heap.size = W.heap.size
  same : ∀ b, bv.ownBlock ≠ some b → wr.heap[b]? = W.heap[b]?
  own : ∃ bs, ownB wr bv bs ∧ bs.length = n
theorem Bumped.start {W : World} {bv : Value} {bs : List Int} (h : ownB W bv bs) : Bumped W W bv bs.length := ⟨rfl, rfl, rfl, rfl, fun _ _ => rfl, bs, h, rfl⟩
theorem Bumped.byte {W wr : World} {g n c k : Nat} (h : Bumped W wr (.slice (some ⟨g, 0, none⟩) n c) n) (hk : k < n) :
    ∃ (u : Int), wr.cell? ⟨g, k, none⟩ = some (.int .u8 u) ∧ wr.frozen? ⟨g, k, none⟩ = false ∧ ∀ v : Int, Bumped W (wr.setCell ⟨g, k, none⟩ (.int .u8 v)) (.slice (some ⟨g, 0, none⟩) n c) n := by
  obtain ⟨bs, h1, h2⟩ := h.own
  obtain ⟨u, cur, -, h4, h5, h6⟩ := own_byte h1 h2 hk
  refine ⟨u, h4, h5, fun v => ⟨h.os, h.tape, h.output, by rw [set_size]; exact h.size, fun b hb => (set_other (fun e => hb (by rw [e]; rfl))).trans (h.same b hb), _, (h6 v).1, (h6 v).2⟩⟩
theorem Bumped.addr {W wr : World} {a : Option Addr} {n c : Nat} (h : Bumped W wr (.slice a n c) n) (hn : 0 < n) : ∃ g, a = some ⟨g, 0, none⟩ := by
  obtain ⟨bs, h1, h2⟩ := h.own
  obtain ⟨g, c', hv⟩ := slice_box h1 (by omega)
  cases hv
  exact ⟨g, rfl⟩

/-- The state of flight's loop: the last number, the count. -/
def FInv (W2 w1 : World) (pre : List (Nat × Pk)) (W : World) : Prop :=
  Below w1.heap.size w1 W ∧ W.heap[w1.heap.size]? = some (.cells #[.int .i64 (lastI pre)] 3 (0, 0)) ∧ W.heap[w1.heap.size + 1]? = some (.cells #[.int .i64 (pre.length : Int)] 3 (0, 0)) ∧ W2.heap.size ≤ W.heap.size
set_option maxHeartbeats 4000000 in
set_option maxRecDepth 100000 in
theorem flight_ok {q : Option Addr} {A : Abs} {RN : RNet} {w : World} {i : Nat} (hs : Seen (.pointer q) A w) (R : ROk w RN) (P : Pair A RN.abs i) (hi : i ≤ 1000000) :
    Calls Try.prog 55 #[.pointer q, RN.val] w fun e w' => e = .returned (.bool true) ∧ Below w.heap.size w w' := by
  have S := P.rsmall hi
  have T := P.cons.tiny hi
  obtain ⟨⟨a1, n1, k1, ha1⟩, ⟨a2, n2, k2, ha2⟩, ⟨a3, n3, k3, ha3⟩, ⟨a4, n4, k4, ha4⟩⟩ := R.forms
  have HVAL : Hid (RN.val = .agg #[.slice a1 n1 k1, .slice a2 n2 k2, .slice a3 n3 k3, .slice a4 n4 k4]) := Lib.hid (by unfold RNet.val; rw [ha1, ha2, ha3, ha4])
  obtain ⟨W0, hW0⟩ : ∃ W0, W0 = ((w.alloc (.cells #[.pointer q] 23)).alloc (.cells #[.slice a1 n1 k1, .slice a2 n2 k2, .slice a3 n3 k3, .slice a4 n4 k4] 64)).alloc (.cells #[.bool false] 4) := ⟨_, rfl⟩
  have b0 : Below w.heap.size w W0 := by rw [hW0]; exact (((Below.refl _ _).alloc (Nat.le_refl _) _).alloc (by simp) _).alloc (by simp; omega) _
  have z0 : W0.heap.size = w.heap.size + 3 := by rw [hW0]; simp
  have x0 : W0.heap[w.heap.size]? = some (.cells #[.pointer q] 23 (0, 0)) := by rw [hW0, old_at (by simp; omega), old_at (by simp)]; exact new_at rfl
  have x1 : W0.heap[w.heap.size + 1]? = some (.cells #[.slice a1 n1 k1, .slice a2 n2 k2, .slice a3 n3 k3, .slice a4 n4 k4] 64 (0, 0)) := by rw [hW0, old_at (by simp)]; exact new_at (by simp)
  have x2 : W0.heap[w.heap.size + 2]? = some (.cells #[.bool false] 4 (0, 0)) := by rw [hW0]; exact new_at (by simp)
  have HFL := Lib.hid (hs.flight W0 b0)
  have d0 : W0.cell? ⟨w.heap.size, 0, none⟩ = some (.pointer q) := by rw [cell_of_row _ _ _ _ _ _ x0]; rfl
  have HS := Lib.hid hs
  have HR := Lib.hid R
  have HP := Lib.hid P
  have HB0 := Lib.hid b0
  have HW0 := Lib.hid hW0
  have HX0 := Lib.hid x0
  have HX1 := Lib.hid x1
  have HX2 := Lib.hid x2
  have HZ0 := Lib.hid z0
  have HT := Lib.hid T
  have HSM := Lib.hid S
  have HA1 := Lib.hid ha1
  have hnl : RN.all.length ≤ 1000000 := S.all
  clear hs R P b0 hW0 x0 x1 x2 z0 T S ha1 ha2 ha3 ha4
  rw [HVAL.out]
  have qf := eqlFn43
  refine (callsIn_wide (n := 3)).1 ?_
  refine callsIn_of_wp_marks Try.func55 rfl trivial ?_ rfl
  simp only [Try.ntmps55, List.size_toArray, List.length_cons, List.length_nil, Nat.reduceAdd, Nat.reduceSub, Array.replicate_succ, Array.replicate_zero, List.push_toArray, List.append_toArray, List.nil_append, List.cons_append]
  refine wpIn_wide.2 ?_
  rw [HW0.out] at d0
  go_wp2_with fail
  rw [← HW0.out]
  refine HFL.out.mono ?_
  rintro e w1 ⟨⟨B, v, L, rfl, hF, hl⟩, hb1⟩
  have HF := Lib.hid hF
  have HL := Lib.hid hl
  have HB1 := Lib.hid hb1
  clear hF hl hb1
  go_wp2_with fail
  obtain ⟨C, hC⟩ : ∃ C, w1.heap.size = C := ⟨_, rfl⟩
  obtain ⟨W2, hW2⟩ : ∃ W2, W2 = (w1.alloc (.cells #[.int .i64 (-1)] 3)).alloc (.cells #[.int .i64 0] 3) := ⟨_, rfl⟩
  have b2 : Below w1.heap.size w1 W2 := by rw [hW2]; exact ((Below.refl _ _).alloc (Nat.le_refl _) _).alloc (by simp) _
  have z2 : W2.heap.size = C + 2 := by rw [hW2, ← hC]; simp
  have y6 : W2.heap[C]? = some (.cells #[.int .i64 (-1)] 3 (0, 0)) := by rw [hW2, old_at (by simp; omega)]; exact new_at hC.symm
  have y7 : W2.heap[C + 1]? = some (.cells #[.int .i64 0] 3 (0, 0)) := by rw [hW2]; exact new_at (by simp; omega)
  have HF2 : Hid (FlSeq W2 W0.heap.size A.fl B v L) := Lib.hid (HF.out.below' b2)
  have HVF : Hid (∀ k, SF v L k → k < C) := Lib.hid fun k hk => by
    rcases hk with hk | ⟨q, hq, hk⟩
    · have := (HF.out.row.lt k hk).2; omega
    · have := ((HF.out.own q hq).lt k hk).2; omega
  have hLl : L.length = A.fl.length := by rw [← HF.out.abs]; simp
  have hL1 : L.length ≤ 1000000 := by have := HT.out.fl; omega
  have FP := fl43_px 2 B W2.heap.size v L W2 hL1 HF2.out.box HF2.out.row HF2.out.own HL.out (Nat.le_refl _)
  rw [HF2.out.abs] at FP
  have HB2 : Hid (Below w.heap.size w W2) := Lib.hid ((HB0.out.trans (HB1.out.mono HB0.out.size)).trans (b2.mono (by have := HB0.out.size; have := HB1.out.size; omega)))
  have HB02 : Hid (Below W0.heap.size W0 W2) := Lib.hid (HB1.out.trans (b2.mono HB1.out.size))
  have hwC : w.heap.size + 3 ≤ C := by have := HZ0.out; have := HB1.out.size; omega
  have START : FInv W2 w1 [] W2 := ⟨b2, by rw [hC]; exact y6, by rw [hC]; exact y7, Nat.le_refl _⟩
  have OWN : OwnFrom W2.heap.size (FInv W2 w1) := fun s A' B' row hs hg hr =>
    ⟨hs.1.grown hg hs.1.size (fun r e => by have := (hr r e).1; omega), (hg.block _ (Array.getElem?_eq_some_iff.1 hs.2.1).1 (fun e => by have := (hr _ e.symm).1; omega)).trans hs.2.1,
      (hg.block _ (Array.getElem?_eq_some_iff.1 hs.2.2.1).1 (fun e => by have := (hr _ e.symm).1; omega)).trans hs.2.2.1, Nat.le_trans hs.2.2.2 hg.size⟩
  rw [← hW2, hC]
  have HZ2 := Lib.hid z2
  have HLl := Lib.hid hLl
  have HCC := Lib.hid hC
  clear b2 z2 y6 y7 hW2 qf hLl hC d0 HW0
  refine (wpIn_wide (n := 3)).1 ?_
  refine range_px1 ?a1 rfl (enters_of Try.func43 (by kernel_rfl) rfl) FP (fun k hk => by have := HVF.out k hk; have := HZ2.out; omega) (FInv W2 w1) (fun _ _ _ => False) OWN (fun _ _ _ _ _ hs _ _ => hs) START (pxF_own _ _ _) ?assign ?body ?done ?stop
  case stop => exact fun D c k W _ _ h _ => h.elim
  case assign =>
    rintro l pre x W K hI hx hK
    have bb : Below W.heap.size W (W.alloc (.cells #[.string x.2.frm, .string x.2.to, x.2.bv] 35)) := (Below.refl _ _).alloc (Nat.le_refl _) _
    have HI1 := Lib.hid hI
    have HPX := Lib.hid hx
    have HK := Lib.hid hK
    have hWs : W2.heap.size ≤ W.heap.size := hI.2.2.2
    have HBV := Lib.hid (slice_parts hx.2.1)
    have HKP : Hid (KpS (SF v L) W (W.alloc (.cells #[.string x.2.frm, .string x.2.to, x.2.bv] 35))) := Lib.hid ⟨by simp, fun k e => old_at (by have h1 := HVF.out k e; have := HZ2.out; omega)⟩
    have HI2 : Hid (FInv W2 w1 pre (W.alloc (.cells #[.string x.2.frm, .string x.2.to, x.2.bv] 35))) := Lib.hid ⟨HI1.out.1.trans (bb.mono HI1.out.1.size), (bb.block _ (Array.getElem?_eq_some_iff.1 HI1.out.2.1).1).trans HI1.out.2.1, (bb.block _ (Array.getElem?_eq_some_iff.1 HI1.out.2.2.1).1).trans HI1.out.2.2.1, Nat.le_trans hWs bb.size⟩
    have HP2 : Hid (PxF W2.heap.size A.fl pre x (W.alloc (.cells #[.string x.2.frm, .string x.2.to, x.2.bv] 35))) := Lib.hid ⟨HPX.out.1, row_stays HPX.out.2.1 fun b hb => bb.block b (HPX.out.2.1.lt b hb).2, HPX.out.2.2⟩
    clear hI hx hK
    unfold encP Pk.val
    dsimp only
    rw [HBV.out]
    simp only [List.zip_toArray, List.zip_cons_cons, List.zip_nil_right, List.foldl_toArray, List.foldl_cons, List.foldl_nil, List.setIfInBounds_toArray, List.set_cons_succ, List.set_cons_zero]
    gi_wp2
    have E : W.alloc (.cells #[.string x.2.frm, .string x.2.to, .slice (slA x.2.bv) x.2.bs.length (slC x.2.bv)] 35) = W.alloc (.cells #[.string x.2.frm, .string x.2.to, x.2.bv] 35) := by rw [← HBV.out]
    rw [E]
    have NW : (W.alloc (.cells #[.string x.2.frm, .string x.2.to, x.2.bv] 35)).heap[W.heap.size]? = some (.cells #[.string x.2.frm, .string x.2.to, x.2.bv] 35 (0, 0)) := new_at rfl
    have HK' := HK.out
    have ED : ∃ D, W.heap.size = D := ⟨_, rfl⟩
    obtain ⟨D, hD⟩ := ED
    rw [hD] at NW hWs ⊢
    exact HK' D _ (keepsFrom_below bb) HKP.out HI2.out HP2.out NW hWs
  case body =>
    rintro l pre x D W hI hPx hbx hDW hlt
    rw [HLl.out] at hlt
    obtain ⟨y, xr, hym, hyid, hxr, hgone, hsrc, hgen, hsame, hlast, hsl, hxabs⟩ := fl_facts HP.out hPx hlt
    have hwW2 : w.heap.size ≤ W2.heap.size := by have := HZ2.out; omega
    have hbW : Below w.heap.size w W := (HB0.out.trans (HB1.out.mono HB0.out.size)).trans (hI.1.mono (by have := HB0.out.size; have := HB1.out.size; omega))
    have hxn : x.1 < RN.all.length := (List.getElem?_eq_some_iff.1 hxr).1
    have hxm := List.mem_of_getElem? hxr
    have RW := HR.out.below hbW
    obtain ⟨g0, c0, hva⟩ := slice_box RW.a (by omega)
    have ra := RW.a
    rw [hva] at ra
    obtain ⟨n, hn⟩ : ∃ n, RN.all.length = n := ⟨_, rfl⟩
    rw [hn] at ra hva hxn
    have ea := HA1.out
    rw [hva] at ea
    simp only [Value.slice.injEq] at ea
    obtain ⟨ea1, ea2, ea3⟩ := ea
    have hgl : g0 < W.heap.size := (ra.lt g0 rfl).2
    obtain ⟨ra1, ra2, hrbv⟩ := ownB_slice (RW.ab xr hxm)
    have E0 := el_at (f := RFl.cells) (fun _ => rfl) ra hxr hn 0 (by decide)
    have E1 := el_at (f := RFl.cells) (fun _ => rfl) ra hxr hn 1 (by decide)
    have E2 := el_at (f := RFl.cells) (fun _ => rfl) ra hxr hn 2 (by decide)
    have E3 := el_at (f := RFl.cells) (fun _ => rfl) ra hxr hn 3 (by decide)
    simp [RFl.cells, hrbv] at E0 E1 E2 E3
    have hbl : xr.p.bs.length ≤ 65536 := by
      have := RW.aok xr hxm
      simp only [validB, Bool.and_eq_true, decide_eq_true_eq] at this
      exact this.2
    have hxl : x.2.bs.length ≤ 65536 := by rw [← hxabs]; exact hbl
    have HBV := Lib.hid (slice_parts hPx.2.1)
    have n1e : n1 = n := ea2.symm
    subst n1e
    have a1e : a1 = some ⟨g0, 0, none⟩ := ea1.symm
    subst a1e
    -- what every later world shows
    have NETC : Hid (∀ ww, Below W.heap.size W ww → ww.cell? ⟨w.heap.size + 1, 0, none⟩ = some (.slice (some ⟨g0, 0, none⟩) n1 k1) ∧ ww.cell? ⟨w.heap.size + 1, 1, none⟩ = some (.slice a2 n2 k2) ∧ ww.cell? ⟨w.heap.size + 1, 2, none⟩ = some (.slice a3 n3 k3) ∧ ww.cell? ⟨w.heap.size + 1, 3, none⟩ = some (.slice a4 n4 k4)) := Lib.hid fun ww hww => by
      have hz := HZ0.out
      have hz1 := HB1.out.size
      have h := (hww.block _ (by have := hI.2.2.2; have := HZ2.out; omega)).trans ((hI.1.block _ (by omega)).trans ((HB1.out.block _ (by omega)).trans HX1.out))
      exact ⟨by rw [cell_of_row _ _ _ _ _ _ h]; rfl, by rw [cell_of_row _ _ _ _ _ _ h]; rfl, by rw [cell_of_row _ _ _ _ _ _ h]; rfl, by rw [cell_of_row _ _ _ _ _ _ h]; rfl⟩
    have PTRC : Hid (∀ ww, Below W.heap.size W ww → ww.cell? ⟨w.heap.size, 0, none⟩ = some (.pointer q)) := Lib.hid fun ww hww => by
      have hz := HZ0.out
      have hz1 := HB1.out.size
      have h := (hww.block _ (by have := hI.2.2.2; have := HZ2.out; omega)).trans ((hI.1.block _ (by omega)).trans ((HB1.out.block _ (by omega)).trans HX0.out))
      rw [cell_of_row _ _ _ _ _ _ h]; rfl
    have LASTC : Hid (∀ ww, Below W.heap.size W ww → ww.cell? ⟨C, 0, none⟩ = some (.int .i64 (lastI pre))) := Lib.hid fun ww hww => by
      have h2 := hI.2.1
      rw [HCC.out] at h2
      have h := (hww.block _ (Array.getElem?_eq_some_iff.1 h2).1).trans h2
      rw [cell_of_row _ _ _ _ _ _ h]; rfl
    have CNTC : Hid (∀ ww, Below W.heap.size W ww → ww.cell? ⟨C + 1, 0, none⟩ = some (.int .i64 (pre.length : Int))) := Lib.hid fun ww hww => by
      have h2 := hI.2.2.1
      rw [HCC.out] at h2
      have h := (hww.block _ (Array.getElem?_eq_some_iff.1 h2).1).trans h2
      rw [cell_of_row _ _ _ _ _ _ h]; rfl
    have BOXC : Hid (∀ ww, Below W.heap.size W ww → ww.cell? ⟨D, 0, none⟩ = some (.string x.2.frm) ∧ ww.cell? ⟨D, 1, none⟩ = some (.string x.2.to) ∧ ww.cell? ⟨D, 2, none⟩ = some (.slice (slA x.2.bv) x.2.bs.length (slC x.2.bv))) := Lib.hid fun ww hww => by
      have h := (hww.block _ (Array.getElem?_eq_some_iff.1 hbx).1).trans hbx
      exact ⟨by rw [cell_of_row _ _ _ _ _ _ h]; rfl, by rw [cell_of_row _ _ _ _ _ _ h]; rfl, by rw [cell_of_row _ _ _ _ _ _ h, ← HBV.out]; rfl⟩
    have ROWC : Hid (∀ ww, Below W.heap.size W ww → ww.cell? ⟨g0, x.1 * 5, none⟩ = some (.string xr.p.frm) ∧ ww.cell? ⟨g0, x.1 * 5 + 1, none⟩ = some (.string xr.p.to) ∧ ww.cell? ⟨g0, x.1 * 5 + 2, none⟩ = some (.slice ra1 xr.p.bs.length ra2) ∧ ww.cell? ⟨g0, x.1 * 5 + 3, none⟩ = some (.int .i64 xr.src)) := Lib.hid fun ww hww =>
      ⟨bcells hww hgl E0, bcells hww hgl E1, bcells hww hgl E2, bcells hww hgl E3⟩
    have FLIES : Hid (∀ ww, Below W.heap.size W ww → Calls Try.prog 26 #[.agg #[.slice (some ⟨g0, 0, none⟩) n1 k1, .slice a2 n2 k2, .slice a3 n3 k3, .slice a4 n4 k4], .int .i64 (x.1 : Nat)] ww fun e w' => e = .returned (.bool true) ∧ Below ww.heap.size ww w') := Lib.hid fun ww hww => by
      have h := flies_any RN ww (RW.below hww) HSM.out (x.1 : Nat)
      rw [HVAL.out, show fliesB RN.all (x.1 : Nat) = true by simp [fliesB, hxr, hgone]] at h
      exact h
    have SAME : Hid (∀ ww, Below W.heap.size W ww → Calls Try.prog 29 #[.agg #[.string x.2.frm, .string x.2.to, .slice (slA x.2.bv) x.2.bs.length (slC x.2.bv)], .agg #[.string xr.p.frm, .string xr.p.to, .slice ra1 xr.p.bs.length ra2]] ww fun e w' => e = .returned (.bool true) ∧ Below ww.heap.size ww w') := Lib.hid fun ww hww => by
      have h := rsame_any x.2 xr.p ww ((ownB_rd hPx.2.1 (by rw [← hxabs]; omega)).below hww) ((ownB_rd (RW.ab xr hxm) (by omega)).below hww)
      unfold Pk.val at h
      rw [hsame, hrbv, HBV.out] at h
      exact h
    have SRC : Hid (∀ ww, Below W.heap.size W ww → Calls Try.prog 25 #[.pointer q, .int .i64 (x.1 : Nat)] ww fun e w' => e = .returned (.tuple #[.int .i64 xr.src, .int .i64 0]) ∧ Below ww.heap.size ww w') := Lib.hid fun ww hww => by
      have h := HS.out.source ww (hbW.trans (hww.mono hbW.size)) y hym
      rw [hyid, hsrc] at h
      exact h
    have GENU : Hid (∀ ww, Below W.heap.size W ww → Calls Try.prog 16 #[.pointer q, .int .i64 (x.1 : Nat)] ww fun e w' => e = .returned (.tuple #[.bool (genuR RN xr), .int .i64 0]) ∧ Below ww.heap.size ww w') := Lib.hid fun ww hww => by
      have h := HS.out.genuine ww (hbW.trans (hww.mono hbW.size)) y hym
      rw [hyid, hgen] at h
      exact h
    have RGEN : Hid (∀ ww, Below W.heap.size W ww → Calls Try.prog 27 #[.agg #[.slice (some ⟨g0, 0, none⟩) n1 k1, .slice a2 n2 k2, .slice a3 n3 k3, .slice a4 n4 k4], .int .i64 (x.1 : Nat)] ww fun e w' => e = .returned (.bool (genuR RN xr)) ∧ Below ww.heap.size ww w') := Lib.hid fun ww hww => by
      have h := rgenuine_any RN ww (RW.below hww) HSM.out x.1 xr hxr hsl
      rw [HVAL.out] at h
      exact h
    have hle : decide ((x.1 : Int) ≤ lastI pre) = false := by simp; omega
    have hx0 : (0 : Int) ≤ (x.1 : Int) := by omega
    have hxt : ((x.1 : Int)).toNat = x.1 := by omega
    have HI := Lib.hid hI
    have HPX := Lib.hid hPx
    have HDW := Lib.hid hDW
    have HBX := Lib.hid hbx
    have hnl2 : n1 ≤ 1000000 := by rw [← hn]; exact hnl
    clear hI hPx hbx hDW hxabs hrbv E0 E1 E2 E3 hn hva ea1 ea2 ea3 ra RW hxm hxr hsl hgone hgen hsame hsrc hyid hym hlast hbW hgl hwW2
    generalize genuR RN xr = gy at GENU RGEN
    generalize lastI pre = la at LASTC hle
    gi_wp2_with fail
    refine wpIn_region_grow (by kernel_rfl) (by kernel_rfl) (by kernel_rfl) ?_
    (refine grow_step rfl ?_; apply Exists.intro; refine ⟨fun ww hww => ?_, ?_⟩; (focus (unfold calmAt calmUpon; go_simp; first | rfl | exact ⟨rfl, hww⟩)); (simp only [Act.put, List.setIfInBounds_toArray, List.set_cons_succ, List.set_cons_zero]))
    (refine grow_step rfl ?_; apply Exists.intro; refine ⟨fun ww hww => ?_, ?_⟩; (focus (have cc := LASTC.out ww hww; unfold calmAt calmUpon; go_simp; first | rfl | exact ⟨rfl, hww⟩)); (simp only [Act.put, List.setIfInBounds_toArray, List.set_cons_succ, List.set_cons_zero]))
    iterate 2 (refine grow_step rfl ?_; apply Exists.intro; refine ⟨fun ww hww => ?_, ?_⟩; (focus (unfold calmAt calmUpon; go_simp; first | rfl | exact ⟨rfl, hww⟩)); (simp only [Act.put, List.setIfInBounds_toArray, List.set_cons_succ, List.set_cons_zero]))
    (refine grow_step rfl ?_; apply Exists.intro; refine ⟨fun ww hww => ?_, ?_⟩; (focus (have cc := NETC.out ww hww; unfold calmAt calmUpon; go_simp; first | rfl | exact ⟨rfl, hww⟩)); (simp only [Act.put, List.setIfInBounds_toArray, List.set_cons_succ, List.set_cons_zero]))
    (refine grow_step rfl ?_; apply Exists.intro; refine ⟨fun ww hww => ?_, ?_⟩; (focus (unfold calmAt calmUpon; go_simp; first | rfl | exact ⟨rfl, hww⟩)); (simp only [Act.put, List.setIfInBounds_toArray, List.set_cons_succ, List.set_cons_zero]))
    (refine grow_step rfl ?_; apply Exists.intro; refine ⟨fun ww hww => ?_, ?_⟩; (focus (unfold calmAt calmUpon; go_simp; refine (FLIES.out ww hww).mono ?_; rintro e w1 ⟨rfl, hb1⟩; exact ⟨rfl, hww.trans (hb1.mono hww.size)⟩)); (simp only [Act.put, List.setIfInBounds_toArray, List.set_cons_succ, List.set_cons_zero]))
    iterate 3 (refine grow_step rfl ?_; apply Exists.intro; refine ⟨fun ww hww => ?_, ?_⟩; (focus (unfold calmAt calmUpon; go_simp; first | rfl | exact ⟨rfl, hww⟩)); (simp only [Act.put, List.setIfInBounds_toArray, List.set_cons_succ, List.set_cons_zero]))
    (refine grow_step rfl ?_; apply Exists.intro; refine ⟨fun ww hww => ?_, ?_⟩; (focus (have cc := BOXC.out ww hww; unfold calmAt calmUpon; go_simp; first | rfl | exact ⟨rfl, hww⟩)); (simp only [Act.put, List.setIfInBounds_toArray, List.set_cons_succ, List.set_cons_zero]))
    (refine grow_step rfl ?_; apply Exists.intro; refine ⟨fun ww hww => ?_, ?_⟩; (focus (unfold calmAt calmUpon; go_simp; first | rfl | exact ⟨rfl, hww⟩)); (simp only [Act.put, List.setIfInBounds_toArray, List.set_cons_succ, List.set_cons_zero]))
    (refine grow_step rfl ?_; apply Exists.intro; refine ⟨fun ww hww => ?_, ?_⟩; (focus (have cc := NETC.out ww hww; unfold calmAt calmUpon; go_simp; first | rfl | exact ⟨rfl, hww⟩)); (simp only [Act.put, List.setIfInBounds_toArray, List.set_cons_succ, List.set_cons_zero]))
    iterate 3 (refine grow_step rfl ?_; apply Exists.intro; refine ⟨fun ww hww => ?_, ?_⟩; (focus (unfold calmAt calmUpon; go_simp; first | rfl | exact ⟨rfl, hww⟩)); (simp only [Act.put, List.setIfInBounds_toArray, List.set_cons_succ, List.set_cons_zero]))
    (refine grow_step rfl ?_; apply Exists.intro; refine ⟨fun ww hww => ?_, ?_⟩; (focus (have cc := ROWC.out ww hww; unfold calmAt calmUpon; go_simp; first | rfl | exact ⟨rfl, hww⟩)); (simp only [Act.put, List.setIfInBounds_toArray, List.set_cons_succ, List.set_cons_zero]))
    (refine grow_step rfl ?_; apply Exists.intro; refine ⟨fun ww hww => ?_, ?_⟩; (focus (unfold calmAt calmUpon; go_simp; refine (SAME.out ww hww).mono ?_; rintro e w1 ⟨rfl, hb1⟩; exact ⟨rfl, hww.trans (hb1.mono hww.size)⟩)); (simp only [Act.put, List.setIfInBounds_toArray, List.set_cons_succ, List.set_cons_zero]))
    iterate 2 (refine grow_step rfl ?_; apply Exists.intro; refine ⟨fun ww hww => ?_, ?_⟩; (focus (unfold calmAt calmUpon; go_simp; first | rfl | exact ⟨rfl, hww⟩)); (simp only [Act.put, List.setIfInBounds_toArray, List.set_cons_succ, List.set_cons_zero]))
    refine calm_nil ?_
    intro W3 hb3
    have pc := PTRC.out W3 hb3
    gi_wp2_with fail
    refine ⟨trivial, (((callsIn_wide (n := 0)).2 (SRC.out W3 hb3)).inRound l).mono ?_⟩
    rintro e W4 ⟨rfl, hb4⟩
    have b4 := hb3.trans (hb4.mono hb3.size)
    have pc4 := PTRC.out W4 b4
    have B4 := Lib.hid b4
    clear pc hb3 hb4 b4
    gi_wp2_with fail
    refine ⟨trivial, (((callsIn_wide (n := 0)).2 (GENU.out W4 B4.out)).inRound l).mono ?_⟩
    rintro e W5 ⟨rfl, hb5⟩
    have b5 := B4.out.trans (hb5.mono B4.out.size)
    obtain ⟨i0, i1, i2, i3⟩ := NETC.out W5 b5
    obtain ⟨r0, r1, r2, r3⟩ := ROWC.out W5 b5
    have B5 := Lib.hid b5
    clear pc4 hb5 b5
    gi_wp2_with fail
    refine ⟨trivial, (((callsIn_wide (n := 0)).2 (RGEN.out W5 B5.out)).inRound l).mono ?_⟩
    rintro e W6 ⟨rfl, hb6⟩
    have b6 := B5.out.trans (hb6.mono B5.out.size)
    have l6 := LASTC.out W6 b6
    have c6 := CNTC.out W6 b6
    obtain ⟨e0, e1, e2⟩ := BOXC.out W6 b6
    have hh1 := HI.out.2.1
    have hh2 := HI.out.2.2.1
    rw [HCC.out] at hh1 hh2
    have k1 : W6.heap[C]? = some (.cells #[.int .i64 (lastI pre)] 3 (0, 0)) := (b6.block _ (Array.getElem?_eq_some_iff.1 hh1).1).trans hh1
    have k2 : W6.heap[C + 1]? = some (.cells #[.int .i64 (pre.length : Int)] 3 (0, 0)) := (b6.block _ (Array.getElem?_eq_some_iff.1 hh2).1).trans hh2
    have f1 := frozen_blk k1 0
    have f2 := frozen_blk k2 0
    have K1 := Lib.hid k1
    have K2 := Lib.hid k2
    have B6 := Lib.hid b6
    have hp1 : (-9223372036854775808 : Int) ≤ (pre.length : Int) + 1 := by omega
    have hp2 : (pre.length : Int) + 1 ≤ 9223372036854775807 := by have := HT.out.fl; omega
    have hDC : D ≠ C := by have := HDW.out; have := HZ2.out; omega
    have hDC1 : D ≠ C + 1 := by have := HDW.out; have := HZ2.out; omega
    clear i0 i1 i2 i3 r0 r1 r2 r3 hb6 b6 hh1 hh2 k1 k2
    have hgg : (gy != gy) = false := by simp
    gi_wp2_with fail
    obtain ⟨W7, hW7⟩ : ∃ W7, W7 = (W6.setCell ⟨C, 0, none⟩ (.int .i64 (x.1 : Nat))).setCell ⟨C + 1, 0, none⟩ (.int .i64 ((pre.length : Int) + 1)) := ⟨_, rfl⟩
    have s7 : ∀ b, b ≠ C → b ≠ C + 1 → W7.heap[b]? = W6.heap[b]? := fun b h1 h2 => by rw [hW7, set_other h2, set_other h1]
    have z7 : W7.heap.size = W6.heap.size := by rw [hW7, set_size, set_size]
    have v1 : W7.heap[C]? = some (.cells #[.int .i64 (x.1 : Nat)] 3 (0, 0)) := by rw [hW7, set_other (by show C ≠ C + 1; omega)]; exact set_at K1.out
    have v2 : W7.heap[C + 1]? = some (.cells #[.int .i64 ((pre.length : Int) + 1)] 3 (0, 0)) := by
      rw [hW7]
      have := (set_other (w := W6) (p := ⟨C, 0, none⟩) (v := .int .i64 (x.1 : Nat)) (b := C + 1) (by show C + 1 ≠ C; omega)).trans K2.out
      exact set_at this
    have hbase : ∀ b, x.2.bv.ownBlock = some b → W2.heap.size ≤ b := HPX.out.2.2.1
    have o7 : ownB W7 x.2.bv x.2.bs := row_stays HPX.out.2.1 fun b hb => by
      have h1 := hbase b hb
      have h2 := (HPX.out.2.1.lt b hb).2
      have := HZ2.out
      rw [s7 b (by omega) (by omega), B6.out.block b h2]
    have BU := Bumped.start o7
    have hDn : ∀ b, x.2.bv.ownBlock = some b → b ≠ D := fun b hb e => by
      subst e
      have h1 := BOXC.out W (Below.refl _ _)
      obtain ⟨o, ho⟩ : ∃ o, W.heap[b]? = some o := ⟨_, HBX.out⟩
      rcases HPX.out.2.1.2 with ⟨h, _⟩ | ⟨g, cap, cur, h, _, h3, _⟩
      · rw [h] at hb; cases hb
      · rw [h] at hb
        cases hb
        rw [HBX.out] at h3
        cases h3
    have hbx7 : W7.heap[D]? = some (.cells #[.string x.2.frm, .string x.2.to, x.2.bv] 35 (0, 0)) := by
      rw [s7 D hDC hDC1, B6.out.block D (Array.getElem?_eq_some_iff.1 HBX.out).1]
      exact HBX.out
    rw [HBV.out] at BU
    obtain ⟨bn, hbn⟩ : ∃ bn, x.2.bs.length = bn := ⟨_, rfl⟩
    obtain ⟨ba, hba⟩ : ∃ ba, slA x.2.bv = ba := ⟨_, rfl⟩
    obtain ⟨bc, hbc⟩ : ∃ bc, slC x.2.bv = bc := ⟨_, rfl⟩
    have hbv2 := HBV.out
    rw [hbn, hba, hbc] at hbv2
    rw [hbn, hba, hbc] at BU
    have hbnl : bn ≤ 65536 := by omega
    have FIN : Hid (∀ wr, Bumped W7 wr (.slice ba bn bc) bn → KeepsFrom W2.heap.size W wr ∧ KpS (SF v L) W wr ∧ FInv W2 w1 (pre ++ [x]) wr) := Lib.hid fun wr h => by
      have hz2 := HZ2.out
      have hcc := HCC.out
      have nb : ∀ b, b < W2.heap.size → (Value.slice ba bn bc).ownBlock ≠ some b := fun b hb e => by
        rw [← hbv2] at e
        have := hbase b e
        omega
      have hsz : W.heap.size ≤ wr.heap.size := by rw [h.size, z7]; exact B6.out.size
      refine ⟨⟨hsz, fun k o hB hk hc => ?_⟩, ⟨hsz, fun k hk => ?_⟩, ⟨?_, ?_, ?_, ?_, fun b hb => ?_⟩, ?_, ?_, ?_⟩
      · have hne : (Value.slice ba bn bc).ownBlock ≠ some k := fun e => by
          rw [← hbv2] at e
          rcases HPX.out.2.1.2 with ⟨h, _⟩ | ⟨g, cap, cur, h, _, h3, _⟩
          · rw [h] at e; cases e
          · rw [h] at e
            cases e
            rw [hk] at h3
            cases h3
            cases hc
        rw [h.same k hne, s7 k (by omega) (by omega), B6.out.block k (Array.getElem?_eq_some_iff.1 hk).1]
        exact hk
      · have hkC := HVF.out k hk
        have hkW : k < W.heap.size := by have := HI.out.2.2.2; omega
        rw [h.same k (nb k (by omega)), s7 k (by omega) (by omega), B6.out.block k hkW]
      · exact h.os.trans (by rw [hW7]; exact B6.out.os.trans HI.out.1.os)
      · exact h.tape.trans (by rw [hW7]; exact B6.out.tape.trans HI.out.1.tape)
      · exact h.output.trans (by rw [hW7]; exact B6.out.output.trans HI.out.1.output)
      · exact Nat.le_trans HI.out.1.size hsz
      · have := HI.out.1.size
        have hww := HI.out.2.2.2
        rw [h.same b (nb b (by omega)), s7 b (by omega) (by omega), B6.out.block b (by omega), HI.out.1.block b hb]
      · rw [hcc, lastI_snoc, h.same C (nb C (by omega))]
        exact v1
      · rw [hcc, h.same (C + 1) (nb (C + 1) (by omega)), v2]
        simp
      · exact Nat.le_trans HI.out.2.2.2 hsz
    have DC : Hid (∀ wr, Bumped W7 wr (.slice ba bn bc) bn → wr.cell? ⟨D, 2, none⟩ = some (.slice ba bn bc)) := Lib.hid fun wr h => by
      have := (h.same D (fun e => hDn D (by rw [hbv2]; exact e) rfl)).trans hbx7
      rw [cell_of_row _ _ _ _ _ _ this, hbv2]; rfl
    have HBU := Lib.hid BU
    rw [← hW7, hbn, hba, hbc]
    clear hW7 s7 z7 v1 v2 hbase o7 BU hDn hbx7 hbn hba hbc hbv2 hgg f1 f2 l6 c6 e0 e1 e2
    gi_loopw [14] (fun i wr => ∃ k : Nat, i = .int .i64 k ∧ k ≤ bn ∧ Bumped W7 wr (.slice ba bn bc) bn) (fun i _ => bn - (intOf i).toNat)
    case atStart => exact ⟨0, rfl, Nat.zero_le _, HBU.out⟩
    case round =>
      obtain ⟨k, rfl, hk, hB⟩ := hrel
      have dc := DC.out wr hB
      by_cases hkl : k < bn
      · obtain ⟨g, rfl⟩ := hB.addr (by omega)
        obtain ⟨u, m0, g0, nx⟩ := hB.byte hkl
        have NX := Lib.hid nx
        clear nx hB
        gi_wp2_with fail
        go_roundw
        case rel => exact ⟨k + 1, by simp, by omega, NX.out _⟩
        case measure => simp [intOf]; omega
      · obtain rfl : k = bn := by omega
        gi_wp2_with fail
        exact FIN.out wr hB
  case done =>
    rintro D1 xs W hD1 hxs hI hK1
    have hxl : xs.length = A.fl.length := by
      have h1 := congrArg List.length hxs
      rw [List.length_map, HLl.out] at h1
      rw [h1]
      simp [upF]
    have hcnt : (A.fl.length : Int) = (countL RN.all : Nat) := by rw [HP.out.sim.count, count_abs]
    have hwW2 : w.heap.size ≤ W2.heap.size := by have := HZ2.out; omega
    have hbW : Below w.heap.size w W := (HB0.out.trans (HB1.out.mono HB0.out.size)).trans (hI.1.mono (by have := HB0.out.size; have := HB1.out.size; omega))
    have hC1 : W.heap[C + 1]? = some (.cells #[.int .i64 (countL RN.all : Nat)] 3 (0, 0)) := by
      have h := hI.2.2.1
      rw [HCC.out, hxl, hcnt] at h
      exact h
    have hz := HZ0.out
    have hz1 := HB1.out.size
    have hz2 := HZ2.out
    have hww := hI.2.2.2
    have xn : W.heap[w.heap.size + 1]? = some (.cells #[.slice a1 n1 k1, .slice a2 n2 k2, .slice a3 n3 k3, .slice a4 n4 k4] 64 (0, 0)) := (hI.1.block _ (by omega)).trans ((HB1.out.block _ (by omega)).trans HX1.out)
    have xr : W.heap[w.heap.size + 2]? = some (.cells #[.bool false] 4 (0, 0)) := (hI.1.block _ (by omega)).trans ((HB1.out.block _ (by omega)).trans HX2.out)
    have NETC : Hid (∀ ww, Below W.heap.size W ww → ww.cell? ⟨w.heap.size + 1, 0, none⟩ = some (.slice a1 n1 k1) ∧ ww.cell? ⟨w.heap.size + 1, 1, none⟩ = some (.slice a2 n2 k2) ∧ ww.cell? ⟨w.heap.size + 1, 2, none⟩ = some (.slice a3 n3 k3) ∧ ww.cell? ⟨w.heap.size + 1, 3, none⟩ = some (.slice a4 n4 k4)) := Lib.hid fun ww hww => by
      have h := (hww.block _ (Array.getElem?_eq_some_iff.1 xn).1).trans xn
      exact ⟨by rw [cell_of_row _ _ _ _ _ _ h]; rfl, by rw [cell_of_row _ _ _ _ _ _ h]; rfl, by rw [cell_of_row _ _ _ _ _ _ h]; rfl, by rw [cell_of_row _ _ _ _ _ _ h]; rfl⟩
    have CNTC : Hid (∀ ww, Below W.heap.size W ww → ww.cell? ⟨C + 1, 0, none⟩ = some (.int .i64 (countL RN.all : Nat))) := Lib.hid fun ww hww => by
      have h := (hww.block _ (Array.getElem?_eq_some_iff.1 hC1).1).trans hC1
      rw [cell_of_row _ _ _ _ _ _ h]; rfl
    have RESC : Hid (∀ ww, Below W.heap.size W ww → ww.heap[w.heap.size + 2]? = some (.cells #[.bool false] 4 (0, 0))) := Lib.hid fun ww hww => (hww.block _ (Array.getElem?_eq_some_iff.1 xr).1).trans xr
    have DEFC : Hid (∀ ww, Below W.heap.size W ww → ww.heap[D1]? = some (.deferred (some []))) := Lib.hid fun ww hww => (hww.block _ (Array.getElem?_eq_some_iff.1 hK1).1).trans hK1
    have CALL : Hid (∀ ww, Below W.heap.size W ww → Calls Try.prog 30 #[.agg #[.slice a1 n1 k1, .slice a2 n2 k2, .slice a3 n3 k3, .slice a4 n4 k4]] ww fun e w' => e = .returned (.int .i64 (countL RN.all : Nat)) ∧ Below ww.heap.size ww w') := Lib.hid fun ww hww => by
      have h := count_any RN ww ((HR.out.below hbW).below hww) HSM.out
      rw [HVAL.out] at h
      exact h
    have HBW := Lib.hid hbW
    have hD1r : D1 ≠ w.heap.size + 2 := by omega
    have hD1w : w.heap.size ≤ D1 := by omega
    clear hxs hI hK1 hxl hcnt hwW2 hbW hC1 xn xr
    generalize countL RN.all = cn at CNTC CALL
    dsimp only
    go_wp2_with fail
    refine wp_region_chain (fun k ww => match k with | 0 => ww = W.drew | 1 => Below W.heap.size W ww | _ => ∃ w1', Below W.heap.size W w1' ∧ ww = w1'.setCell ⟨w.heap.size + 2, 0, none⟩ (.bool true)) [2, 4] [(0, 2), (1, 1)] (by kernel_rfl) (by kernel_rfl) (by kernel_rfl) (by kernel_rfl) rfl ?_
    (refine chain_load rfl rfl 2 (by simp) ?_; apply Exists.intro; refine ⟨fun k ww hk hww => ?_, ?_⟩; (focus (have bb : Below W.heap.size W ww := (match k, hk, hww with | 0, _, h => (by rw [h]; exact (Below.refl _ _).drew) | 1, _, h => h)); have m := CNTC.out ww bb; unfold calmAt calmUpon; go_simp; rfl); (simp only [Act.put, List.setIfInBounds_toArray, List.set_cons_succ, List.set_cons_zero]))
    (refine chain_load rfl rfl 1 (by simp) ?_; apply Exists.intro; refine ⟨fun k ww hk hww => ?_, ?_⟩; (focus (have bb : Below W.heap.size W ww := (match k, hk, hww with | 0, _, h => (by rw [h]; exact (Below.refl _ _).drew))); obtain ⟨m0, m1, m2, m3⟩ := NETC.out ww bb; unfold calmAt calmUpon; go_simp; rfl); (simp only [Act.put, List.setIfInBounds_toArray, List.set_cons_succ, List.set_cons_zero]))
    refine chain_write (by kernel_rfl) rfl 0 rfl (by rfl) ?_
    apply Exists.intro
    refine ⟨fun ww hww => ?_, ?_⟩
    focus
      obtain rfl : ww = W.drew := hww
      have bb : Below W.heap.size W W.drew := (Below.refl _ _).drew
      unfold calmAt calmUpon
      go_simp
      refine (CALL.out _ bb).mono ?_
      rintro e w1 ⟨rfl, hb1⟩
      exact ⟨rfl, bb.trans (hb1.mono (Nat.le_refl _))⟩
    (simp only [Act.put, List.setIfInBounds_toArray, List.set_cons_succ, List.set_cons_zero])
    (refine chain_pure rfl rfl ?_; apply Exists.intro; refine ⟨fun ww => ?_, ?_⟩; (focus (unfold calmAt calmUpon; go_simp; rfl)); (simp only [Act.put, List.setIfInBounds_toArray, List.set_cons_succ, List.set_cons_zero]))
    refine chain_write (by kernel_rfl) rfl 1 rfl (by rfl) ?_
    apply Exists.intro
    refine ⟨fun ww hww => ?_, ?_⟩
    focus
      have bb : Below W.heap.size W ww := hww
      have hr := RESC.out ww bb
      have g0 := frozen_blk hr 0
      have m0 : ww.cell? ⟨w.heap.size + 2, 0, none⟩ = some (.bool false) := by rw [cell_of_row _ _ _ _ _ _ hr]; rfl
      unfold calmAt calmUpon
      go_simp
      exact ⟨rfl, ww, bb, rfl⟩
    (simp only [Act.put, List.setIfInBounds_toArray, List.set_cons_succ, List.set_cons_zero])
    refine calm_nil ?_
    rintro ww ⟨w3, hb3, hww⟩
    have e0 := RESC.out w3 hb3
    have e1 := DEFC.out w3 hb3
    go_wp2_with fail
    have e2 : ww.heap[D1]? = some (.deferred (some [])) := by rw [hww, set_other hD1r]; exact e1
    have e3 : ww.heap[w.heap.size + 2]? = some (.cells #[.bool true] 4 (0, 0)) := by rw [hww]; exact set_at e0
    refine ⟨by simp, .inl ⟨_, _, rfl, run_takeDeferred e2, ?_⟩⟩
    have e4 : (ww.putObj D1 (.deferred none)).heap[w.heap.size + 2]? = some (.cells #[.bool true] 4 (0, 0)) := (World.putObj_heap_other (Ne.symm hD1r)).trans e3
    have f0 : (ww.putObj D1 (.deferred none)).cell? ⟨w.heap.size + 2, 0, none⟩ = some (.bool true) := by rw [cell_of_row _ _ _ _ _ _ e4]; rfl
    have bw : Below w.heap.size w ww := by
      rw [hww]
      exact (HBW.out.trans (hb3.mono HBW.out.size)).setCell (p := ⟨_, _, _⟩) (by show w.heap.size ≤ w.heap.size + 2; omega) _
    exact ⟨.bool true, by simp [results, Try.results55, go_sem, f0], rfl, bw.trans (belowK_b (w := w) (Nat.le_refl _) _ D1 _ _ hD1w e2 rfl rfl)⟩
end Go.Proofs.Ytiindnmelegkgaa

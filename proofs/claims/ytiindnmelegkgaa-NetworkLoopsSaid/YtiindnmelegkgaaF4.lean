/- agrees: the loop over the history. -/
import Derived.Test.YtiindnmelegkgaaF3
namespace Go.Proofs.Ytiindnmelegkgaa
open Go.RowKit Go.Shelf
set_option linter.unusedSimpArgs false
set_option linter.unusedVariables false
attribute [local go_sem] Oper.semAt_some

theorem HiSeq.below {w w' : World} {base : Nat} {l : List Pk} {B : Nat} {v : Value} (h : HiSeq w base l B v) (hb : Below w.heap.size w w') : HiSeq w' base l B v :=
  ⟨(hb.block _ (Array.getElem?_eq_some_iff.1 h.box).1).trans h.box, h.hB, row_stays h.row fun b h' => hb.block b (h.row.lt b h').2, h.far⟩
set_option maxRecDepth 100000 in
theorem neqEv (w : World) (a b c : Int) : (binOp .neq 59 (.agg #[.int .i64 a, .int .i64 b, .int .i64 c]) (.agg #[.int .i64 a, .int .i64 b, .int .i64 c])).run Try.prog w = .ok (.bool false) w := by
  go_simp

/-- The state of a counting loop. -/
def CInv (W4 w3 : World) (D1 : Option Nat) (n : Nat) (W : World) : Prop :=
  Below w3.heap.size w3 W ∧ W.heap[w3.heap.size]? = some (.cells #[.int .i64 (n : Int)] 3 (0, 0)) ∧ W4.heap.size ≤ W.heap.size ∧ ∀ d, D1 = some d → W.heap[d]? = some (.deferred (some []))
theorem CInv.own {W4 w3 : World} {D1 : Option Nat} {B : Nat} (hB : w3.heap.size < B) (hd : ∀ d, D1 = some d → d < B) {α : Type} (f : α → Nat) : OwnFrom B (fun (pre : α) W => CInv W4 w3 D1 (f pre) W) := fun s A' B' row hs hg hr =>
  ⟨hs.1.grown hg hs.1.size (fun r e => by have := (hr r e).1; omega), (hg.block _ (Array.getElem?_eq_some_iff.1 hs.2.1).1 (fun e => by have := (hr _ e.symm).1; omega)).trans hs.2.1, Nat.le_trans hs.2.2.1 hg.size,
    fun d hd' => (hg.block _ (Array.getElem?_eq_some_iff.1 (hs.2.2.2 d hd')).1 (fun e => by have := (hr _ e.symm).1; have := hd d hd'; omega)).trans (hs.2.2.2 d hd')⟩
theorem hi_facts {A : Abs} {RN : RNet} {i base : Nat} (P : Pair A RN.abs i) {pre : List (Nat × Pk)} {x : Nat × Pk} {W : World} (h : PxH base A.hist pre x W) (hlt : pre.length < A.hist.length) :
    ∃ q, RN.hist[pre.length]? = some q ∧ x.1 = pre.length ∧ sameS x.2 q = true ∧ q.bs = x.2.bs := by
  have hh : A.hist = RN.hist.map Pk.abs := P.sim.hist
  have hl : pre.length < RN.hist.length := by rw [hh, List.length_map] at hlt; exact hlt
  refine ⟨RN.hist[pre.length], List.getElem?_eq_getElem hl, congrArg Prod.fst h.1, ?_⟩
  have e2 : x.2.abs = A.hist.getD pre.length zeroA := congrArg Prod.snd h.1
  rw [hh] at e2
  have e3 : (RN.hist.map Pk.abs).getD pre.length zeroA = RN.hist[pre.length].abs := by simp [List.getD, List.getElem?_eq_getElem hl]
  rw [e3] at e2
  have a1 : x.2.frm = RN.hist[pre.length].frm := congrArg APk.frm e2
  have a2 : x.2.to = RN.hist[pre.length].to := congrArg APk.to e2
  have a3 : x.2.bs = RN.hist[pre.length].bs := congrArg APk.bs e2
  exact ⟨by simp [sameS, a1, a2, a3], a3.symm⟩

set_option maxHeartbeats 8000000 in
set_option maxRecDepth 100000 in
theorem agrees_ok {q : Option Addr} {A : Abs} {RN : RNet} {w : World} {i : Nat} (hs : Seen (.pointer q) A w) (R : ROk w RN) (P : Pair A RN.abs i) (hi : i ≤ 1000000) :
    Calls Try.prog 33 #[.pointer q, RN.val] w fun e w' => e = .returned (.bool true) ∧ Below w.heap.size w w' := by
  have S := P.rsmall hi
  have T := P.cons.tiny hi
  obtain ⟨⟨a1, n1, k1, ha1⟩, ⟨a2, n2, k2, ha2⟩, ⟨a3, n3, k3, ha3⟩, ⟨a4, n4, k4, ha4⟩⟩ := R.forms
  have HVAL : Hid (RN.val = .agg #[.slice a1 n1 k1, .slice a2 n2 k2, .slice a3 n3 k3, .slice a4 n4 k4]) := Lib.hid (by unfold RNet.val; rw [ha1, ha2, ha3, ha4])
  have hn2 : n2 = RN.hist.length := by
    obtain ⟨a, c, h⟩ := row_slice R.h
    rw [ha2] at h; cases h; rfl
  have hn3 : n3 = RN.evs.length := by
    obtain ⟨a, c, h⟩ := row_slice R.e
    rw [ha3] at h; cases h; rfl
  obtain ⟨W0, hW0⟩ : ∃ W0, W0 = (w.alloc (.cells #[.slice a1 n1 k1, .slice a2 n2 k2, .slice a3 n3 k3, .slice a4 n4 k4] 64)).alloc (.cells #[.bool false] 4) := ⟨_, rfl⟩
  have b0 : Below w.heap.size w W0 := by rw [hW0]; exact ((Below.refl _ _).alloc (Nat.le_refl _) _).alloc (by simp) _
  have z0 : W0.heap.size = w.heap.size + 2 := by rw [hW0]; simp
  have x1 : W0.heap[w.heap.size]? = some (.cells #[.slice a1 n1 k1, .slice a2 n2 k2, .slice a3 n3 k3, .slice a4 n4 k4] 64 (0, 0)) := by rw [hW0, old_at (by simp)]; exact new_at rfl
  have x2 : W0.heap[w.heap.size + 1]? = some (.cells #[.bool false] 4 (0, 0)) := by rw [hW0]; exact new_at (by simp)
  have HHI := Lib.hid (hs.hist W0 b0)
  have HS := Lib.hid hs
  have HR := Lib.hid R
  have HP := Lib.hid P
  have HB0 := Lib.hid b0
  have HW0 := Lib.hid hW0
  have HX1 := Lib.hid x1
  have HX2 := Lib.hid x2
  have HZ0 := Lib.hid z0
  have HT := Lib.hid T
  have HSM := Lib.hid S
  have HA2 := Lib.hid ha2
  have HA3 := Lib.hid ha3
  have HN2 := Lib.hid hn2
  have HN3 := Lib.hid hn3
  clear hs R P b0 hW0 x1 x2 z0 T S ha1 ha2 ha3 ha4 hn2 hn3
  rw [HVAL.out]
  have qf := eqlFn53
  have qe := eqlFn
  refine (callsIn_wide (n := 3)).1 ?_
  refine callsIn_of_wp_marks Try.func33 rfl trivial ?_ rfl
  simp only [Try.ntmps33, List.size_toArray, List.length_cons, List.length_nil, Nat.reduceAdd, Nat.reduceSub, Array.replicate_succ, Array.replicate_zero, List.push_toArray, List.append_toArray, List.nil_append, List.cons_append]
  refine wpIn_wide.2 ?_
  go_wp2_with fail
  rw [← HW0.out]
  refine HHI.out.mono ?_
  rintro e w1 ⟨⟨B, v, L, rfl, hF, hFa, hFo, hFl⟩, hb1⟩
  have B1 : Hid (Below w.heap.size w w1) := Lib.hid (HB0.out.trans (hb1.mono HB0.out.size))
  have HB01 := Lib.hid hb1
  have HF := Lib.hid hF
  have HFA := Lib.hid hFa
  have HFO := Lib.hid hFo
  have HFL := Lib.hid hFl
  have HEV := Lib.hid (HS.out.events w1 B1.out)
  clear hF hFa hFo hFl hb1
  go_wp2_with fail
  refine HEV.out.mono ?_
  rintro e w2 ⟨⟨B2, v2, rfl, -, hE1, hE2, -⟩, hb2⟩
  have B2' : Hid (Below w.heap.size w w2) := Lib.hid (B1.out.trans (hb2.mono B1.out.size))
  have HB12 := Lib.hid hb2
  have HE1 := Lib.hid hE1
  have HE2 := Lib.hid hE2
  have hz0 := HZ0.out
  have hz1 := HB01.out.size
  have y1 : w2.heap[w.heap.size]? = some (.cells #[.slice a1 n1 k1, .slice a2 n2 k2, .slice a3 n3 k3, .slice a4 n4 k4] 64 (0, 0)) := (hb2.block _ (by omega)).trans ((HB01.out.block _ (by omega)).trans HX1.out)
  obtain ⟨m0, m1, m2, m3⟩ : w2.cell? ⟨w.heap.size, 0, none⟩ = some (.slice a1 n1 k1) ∧ w2.cell? ⟨w.heap.size, 1, none⟩ = some (.slice a2 n2 k2) ∧ w2.cell? ⟨w.heap.size, 2, none⟩ = some (.slice a3 n3 k3) ∧ w2.cell? ⟨w.heap.size, 3, none⟩ = some (.slice a4 n4 k4) :=
    ⟨by rw [cell_of_row _ _ _ _ _ _ y1]; rfl, by rw [cell_of_row _ _ _ _ _ _ y1]; rfl, by rw [cell_of_row _ _ _ _ _ _ y1]; rfl, by rw [cell_of_row _ _ _ _ _ _ y1]; rfl⟩
  have HFLI := flight_ok (HS.out.below B2'.out) (HR.out.below B2'.out) HP.out hi
  rw [HVAL.out] at HFLI
  have HFLI := Lib.hid HFLI
  clear hE1 hE2 hb2 y1 hz0 hz1
  go_wp2_with fail
  refine HFLI.out.mono ?_
  rintro e w3 ⟨rfl, hb3⟩
  have B3 : Hid (Below w.heap.size w w3) := Lib.hid (B2'.out.trans (hb3.mono B2'.out.size))
  have HB23 := Lib.hid hb3
  clear hb3 m0 m1 m2 m3
  go_wp2_with fail
  obtain ⟨C, hC⟩ : ∃ C, w3.heap.size = C := ⟨_, rfl⟩
  obtain ⟨W4, hW4⟩ : ∃ W4, W4 = w3.alloc (.cells #[.int .i64 0] 3) := ⟨_, rfl⟩
  have b4 : Below w3.heap.size w3 W4 := by rw [hW4]; exact (Below.refl _ _).alloc (Nat.le_refl _) _
  have z4 : W4.heap.size = C + 1 := by rw [hW4, ← hC]; simp
  have y4 : W4.heap[w3.heap.size]? = some (.cells #[.int .i64 0] 3 (0, 0)) := by rw [hW4]; exact new_at rfl
  have c14 : Below w1.heap.size w1 W4 := (HB12.out.trans (HB23.out.mono HB12.out.size)).trans (b4.mono (Nat.le_trans HB12.out.size HB23.out.size))
  have HVF : Hid (∀ k, SH v L k → k < C) := Lib.hid fun k hk => by
    have h12 := HB12.out.size
    have h23 := HB23.out.size
    rcases hk with hk | ⟨q, hq, hk⟩
    · have := (HF.out.row.lt k hk).2; omega
    · have := ((HFO.out q hq).lt k hk).2; omega
  have HVE : Hid (∀ k, v2.ownBlock = some k → k < C) := Lib.hid fun k hk => by
    have := (HE2.out.lt k hk).2
    have h23 := HB23.out.size
    omega
  have hLl : L.length = A.hist.length := by rw [← HFA.out]; simp
  have hL1 : L.length ≤ 1000000 := by have := HT.out.hist; omega
  have HF4 := Lib.hid (HF.out.below c14)
  have HFO4 : Hid (∀ q ∈ L, ownB W4 q.bv q.bs) := Lib.hid fun q hq => row_stays (HFO.out q hq) fun b h' => c14.block b ((HFO.out q hq).lt b h').2
  have FP := hist53_px 2 B W4.heap.size v L W4 hL1 HF4.out.box HF4.out.row HFO4.out HFL.out (Nat.le_refl _)
  rw [HFA.out] at FP
  have hwC : w.heap.size + 2 ≤ C := by have := HZ0.out; have := HB01.out.size; have := HB12.out.size; have := HB23.out.size; omega
  have START : CInv W4 w3 none 0 W4 := ⟨b4, y4, Nat.le_refl _, by simp⟩
  have HX13 : Hid (w3.heap[w.heap.size]? = some (.cells #[.slice a1 n1 k1, .slice a2 n2 k2, .slice a3 n3 k3, .slice a4 n4 k4] 64 (0, 0))) := Lib.hid (by
    have h0 := HZ0.out; have h1 := HB01.out.size; have h2 := HB12.out.size
    exact (HB23.out.block _ (by omega)).trans ((HB12.out.block _ (by omega)).trans ((HB01.out.block _ (by omega)).trans HX1.out)))
  have HX23 : Hid (w3.heap[w.heap.size + 1]? = some (.cells #[.bool false] 4 (0, 0))) := Lib.hid (by
    have h0 := HZ0.out; have h1 := HB01.out.size; have h2 := HB12.out.size
    exact (HB23.out.block _ (by omega)).trans ((HB12.out.block _ (by omega)).trans ((HB01.out.block _ (by omega)).trans HX2.out)))
  -- what every world that has grown out of w3 shows
  have NET3 : Hid (∀ ww, Below w3.heap.size w3 ww → ww.cell? ⟨w.heap.size, 0, none⟩ = some (.slice a1 n1 k1) ∧ ww.cell? ⟨w.heap.size, 1, none⟩ = some (.slice a2 n2 k2) ∧ ww.cell? ⟨w.heap.size, 2, none⟩ = some (.slice a3 n3 k3) ∧ ww.cell? ⟨w.heap.size, 3, none⟩ = some (.slice a4 n4 k4)) := Lib.hid fun ww hww => by
    have h := (hww.block _ (by omega)).trans HX13.out
    exact ⟨by rw [cell_of_row _ _ _ _ _ _ h]; rfl, by rw [cell_of_row _ _ _ _ _ _ h]; rfl, by rw [cell_of_row _ _ _ _ _ _ h]; rfl, by rw [cell_of_row _ _ _ _ _ _ h]; rfl⟩
  rw [← hW4, hC]
  have HZ4 := Lib.hid z4
  have HLl := Lib.hid hLl
  have HCC := Lib.hid hC
  clear b4 z4 y4 hW4 qf qe hLl hC c14
  refine (wpIn_wide (n := 3)).1 ?_
  refine range_px1 ?a1 rfl (enters_of Try.func53 (by kernel_rfl) rfl) FP (fun k hk => by have := HVF.out k hk; have := HZ4.out; omega) (fun pre W => CInv W4 w3 none pre.length W) (fun _ _ _ => False)
    (CInv.own (by have := HZ4.out; have := HCC.out; omega) (by simp) List.length) (fun _ _ _ _ _ hs _ _ => hs) START (pxH_own _ _ _) ?assign ?body ?done ?stop
  case stop => exact fun D c k W _ _ h _ => h.elim
  case assign =>
    rintro l pre x W K hI hx hK
    have bb : Below W.heap.size W (W.alloc (.cells #[.string x.2.frm, .string x.2.to, x.2.bv] 35)) := (Below.refl _ _).alloc (Nat.le_refl _) _
    have HI1 := Lib.hid hI
    have HPX := Lib.hid hx
    have HK := Lib.hid hK
    have hWs : W4.heap.size ≤ W.heap.size := hI.2.2.1
    have HBV := Lib.hid (slice_parts hx.2.1)
    have HKP : Hid (KpS (SH v L) W (W.alloc (.cells #[.string x.2.frm, .string x.2.to, x.2.bv] 35))) := Lib.hid ⟨by simp, fun k e => old_at (by have h1 := HVF.out k e; have := HZ4.out; omega)⟩
    have HI2 : Hid (CInv W4 w3 none pre.length (W.alloc (.cells #[.string x.2.frm, .string x.2.to, x.2.bv] 35))) := Lib.hid ⟨HI1.out.1.trans (bb.mono HI1.out.1.size), (bb.block _ (Array.getElem?_eq_some_iff.1 HI1.out.2.1).1).trans HI1.out.2.1, Nat.le_trans hWs bb.size, by simp⟩
    have HP2 : Hid (PxH W4.heap.size A.hist pre x (W.alloc (.cells #[.string x.2.frm, .string x.2.to, x.2.bv] 35))) := Lib.hid ⟨HPX.out.1, row_stays HPX.out.2.1 fun b hb => bb.block b (HPX.out.2.1.lt b hb).2, HPX.out.2.2⟩
    clear hI hx hK
    unfold encP Pk.val
    dsimp only
    rw [HBV.out]
    simp only [List.zip_toArray, List.zip_cons_cons, List.zip_nil_right, List.foldl_toArray, List.foldl_cons, List.foldl_nil, List.setIfInBounds_toArray, List.set_cons_succ, List.set_cons_zero]
    gi_wp2
    have E : W.alloc (.cells #[.string x.2.frm, .string x.2.to, .slice (slA x.2.bv) x.2.bs.length (slC x.2.bv)] 35) = W.alloc (.cells #[.string x.2.frm, .string x.2.to, x.2.bv] 35) := by rw [← HBV.out]
    rw [E]
    have NW : (W.alloc (.cells #[.string x.2.frm, .string x.2.to, x.2.bv] 35)).heap[W.heap.size]? = some (.cells #[.string x.2.frm, .string x.2.to, x.2.bv] 35 (0, 0)) := new_at rfl
    have HK' := HK.out
    have ED : ∃ D, W.heap.size = D := ⟨_, rfl⟩
    obtain ⟨D, hD⟩ := ED
    rw [hD] at NW hWs ⊢
    exact HK' D _ (keepsFrom_below bb) HKP.out HI2.out HP2.out NW hWs
  case body =>
    rintro l pre x D W hI hPx hbx hDW hlt
    rw [HLl.out] at hlt
    obtain ⟨qr, hqr, hx1, hsame, hqbs⟩ := hi_facts HP.out hPx hlt
    have hwW4 : w.heap.size ≤ W4.heap.size := by have := HZ4.out; omega
    have hbW : Below w.heap.size w W := B3.out.trans (hI.1.mono B3.out.size)
    have hqm := List.mem_of_getElem? hqr
    have hqn : pre.length < RN.hist.length := (List.getElem?_eq_some_iff.1 hqr).1
    have RW := HR.out.below hbW
    obtain ⟨g0, c0, hvh⟩ := slice_box RW.h (by omega)
    have ea := HA2.out
    rw [hvh] at ea
    simp only [Value.slice.injEq] at ea
    obtain ⟨ea1, ea2, ea3⟩ := ea
    have rh := RW.h
    rw [hvh] at rh
    have hgl : g0 < W.heap.size := (rh.lt g0 rfl).2
    obtain ⟨ra1, ra2, hrbv⟩ := ownB_slice (RW.hb qr hqm)
    have E0 := el_at (f := Pk.cells) (fun _ => rfl) rh hqr rfl 0 (by decide)
    have E1 := el_at (f := Pk.cells) (fun _ => rfl) rh hqr rfl 1 (by decide)
    have E2 := el_at (f := Pk.cells) (fun _ => rfl) rh hqr rfl 2 (by decide)
    simp [Pk.cells, hrbv] at E0 E1 E2
    have hbl : qr.bs.length ≤ 65536 := by
      have := RW.hok qr hqm
      simp only [validB, Bool.and_eq_true, decide_eq_true_eq] at this
      exact this.2
    have hxl : x.2.bs.length ≤ 65536 := by rw [← hqbs]; exact hbl
    have HBV := Lib.hid (slice_parts hPx.2.1)
    have a2e : a2 = some ⟨g0, 0, none⟩ := ea1.symm
    subst a2e
    have hpn : pre.length < n2 := by rw [← ea2]; exact hqn
    have NETC : Hid (∀ ww, Below W.heap.size W ww → ww.cell? ⟨w.heap.size, 0, none⟩ = some (.slice a1 n1 k1) ∧ ww.cell? ⟨w.heap.size, 1, none⟩ = some (.slice (some ⟨g0, 0, none⟩) n2 k2) ∧ ww.cell? ⟨w.heap.size, 2, none⟩ = some (.slice a3 n3 k3) ∧ ww.cell? ⟨w.heap.size, 3, none⟩ = some (.slice a4 n4 k4)) := Lib.hid fun ww hww =>
      NET3.out ww (hI.1.trans (hww.mono hI.1.size))
    have CNTC : Hid (∀ ww, Below W.heap.size W ww → ww.cell? ⟨C, 0, none⟩ = some (.int .i64 (pre.length : Int))) := Lib.hid fun ww hww => by
      have h2 := hI.2.1
      rw [HCC.out] at h2
      have h := (hww.block _ (Array.getElem?_eq_some_iff.1 h2).1).trans h2
      rw [cell_of_row _ _ _ _ _ _ h]; rfl
    have BOXC : Hid (∀ ww, Below W.heap.size W ww → ww.cell? ⟨D, 0, none⟩ = some (.string x.2.frm) ∧ ww.cell? ⟨D, 1, none⟩ = some (.string x.2.to) ∧ ww.cell? ⟨D, 2, none⟩ = some (.slice (slA x.2.bv) x.2.bs.length (slC x.2.bv))) := Lib.hid fun ww hww => by
      have h := (hww.block _ (Array.getElem?_eq_some_iff.1 hbx).1).trans hbx
      exact ⟨by rw [cell_of_row _ _ _ _ _ _ h]; rfl, by rw [cell_of_row _ _ _ _ _ _ h]; rfl, by rw [cell_of_row _ _ _ _ _ _ h, ← HBV.out]; rfl⟩
    have ROWC : Hid (∀ ww, Below W.heap.size W ww → ww.cell? ⟨g0, pre.length * 3, none⟩ = some (.string qr.frm) ∧ ww.cell? ⟨g0, pre.length * 3 + 1, none⟩ = some (.string qr.to) ∧ ww.cell? ⟨g0, pre.length * 3 + 2, none⟩ = some (.slice ra1 qr.bs.length ra2)) := Lib.hid fun ww hww =>
      ⟨bcells hww hgl E0, bcells hww hgl E1, bcells hww hgl E2⟩
    have SAME : Hid (∀ ww, Below W.heap.size W ww → Calls Try.prog 29 #[.agg #[.string x.2.frm, .string x.2.to, .slice (slA x.2.bv) x.2.bs.length (slC x.2.bv)], .agg #[.string qr.frm, .string qr.to, .slice ra1 qr.bs.length ra2]] ww fun e w' => e = .returned (.bool true) ∧ Below ww.heap.size ww w') := Lib.hid fun ww hww => by
      have h := rsame_any x.2 qr ww ((ownB_rd hPx.2.1 (by omega)).below hww) ((ownB_rd (RW.hb qr hqm) (by omega)).below hww)
      unfold Pk.val at h
      rw [hsame, hrbv, HBV.out] at h
      exact h
    have hge1 : decide ((pre.length : Int) ≥ (n2 : Int)) = false := by simp; omega
    have hge2 : decide (n2 ≤ pre.length) = false := by simp; omega
    have HI := Lib.hid hI
    have HPX := Lib.hid hPx
    have HDW := Lib.hid hDW
    have HBX := Lib.hid hbx
    have hnl2 : n2 ≤ 1000000 := by rw [← ea2]; exact HSM.out.hist
    have HX1 := Lib.hid hx1
    clear hI hPx hbx hDW hqbs hrbv E0 E1 E2 hvh ea1 ea2 ea3 rh RW hqm hqr hsame hbW hgl hwW4 hx1 hqn hlt
    rw [HX1.out]
    gi_wp2_with fail
    refine wpIn_region_grow (by kernel_rfl) (by kernel_rfl) (by kernel_rfl) ?_
    (refine grow_step rfl ?_; apply Exists.intro; refine ⟨fun ww hww => ?_, ?_⟩; (focus (unfold calmAt calmUpon; go_simp; first | rfl | exact ⟨rfl, hww⟩)); (simp only [Act.put, List.setIfInBounds_toArray, List.set_cons_succ, List.set_cons_zero]))
    (refine grow_step rfl ?_; apply Exists.intro; refine ⟨fun ww hww => ?_, ?_⟩; (focus (have cc := CNTC.out ww hww; unfold calmAt calmUpon; go_simp; first | rfl | exact ⟨rfl, hww⟩)); (simp only [Act.put, List.setIfInBounds_toArray, List.set_cons_succ, List.set_cons_zero]))
    iterate 2 (refine grow_step rfl ?_; apply Exists.intro; refine ⟨fun ww hww => ?_, ?_⟩; (focus (unfold calmAt calmUpon; go_simp; first | rfl | exact ⟨rfl, hww⟩)); (simp only [Act.put, List.setIfInBounds_toArray, List.set_cons_succ, List.set_cons_zero]))
    (refine grow_step rfl ?_; apply Exists.intro; refine ⟨fun ww hww => ?_, ?_⟩; (focus (have cc := CNTC.out ww hww; unfold calmAt calmUpon; go_simp; first | rfl | exact ⟨rfl, hww⟩)); (simp only [Act.put, List.setIfInBounds_toArray, List.set_cons_succ, List.set_cons_zero]))
    (refine grow_step rfl ?_; apply Exists.intro; refine ⟨fun ww hww => ?_, ?_⟩; (focus (unfold calmAt calmUpon; go_simp; first | rfl | exact ⟨rfl, hww⟩)); (simp only [Act.put, List.setIfInBounds_toArray, List.set_cons_succ, List.set_cons_zero]))
    (refine grow_step rfl ?_; apply Exists.intro; refine ⟨fun ww hww => ?_, ?_⟩; (focus (have cc := NETC.out ww hww; unfold calmAt calmUpon; go_simp; first | rfl | exact ⟨rfl, hww⟩)); (simp only [Act.put, List.setIfInBounds_toArray, List.set_cons_succ, List.set_cons_zero]))
    iterate 4 (refine grow_step rfl ?_; apply Exists.intro; refine ⟨fun ww hww => ?_, ?_⟩; (focus (unfold calmAt calmUpon; go_simp; first | rfl | exact ⟨rfl, hww⟩)); (simp only [Act.put, List.setIfInBounds_toArray, List.set_cons_succ, List.set_cons_zero]))
    (refine grow_step rfl ?_; apply Exists.intro; refine ⟨fun ww hww => ?_, ?_⟩; (focus (have cc := BOXC.out ww hww; unfold calmAt calmUpon; go_simp; first | rfl | exact ⟨rfl, hww⟩)); (simp only [Act.put, List.setIfInBounds_toArray, List.set_cons_succ, List.set_cons_zero]))
    (refine grow_step rfl ?_; apply Exists.intro; refine ⟨fun ww hww => ?_, ?_⟩; (focus (unfold calmAt calmUpon; go_simp; first | rfl | exact ⟨rfl, hww⟩)); (simp only [Act.put, List.setIfInBounds_toArray, List.set_cons_succ, List.set_cons_zero]))
    (refine grow_step rfl ?_; apply Exists.intro; refine ⟨fun ww hww => ?_, ?_⟩; (focus (have cc := NETC.out ww hww; unfold calmAt calmUpon; go_simp; first | rfl | exact ⟨rfl, hww⟩)); (simp only [Act.put, List.setIfInBounds_toArray, List.set_cons_succ, List.set_cons_zero]))
    (refine grow_step rfl ?_; apply Exists.intro; refine ⟨fun ww hww => ?_, ?_⟩; (focus (have cc := CNTC.out ww hww; unfold calmAt calmUpon; go_simp; first | rfl | exact ⟨rfl, hww⟩)); (simp only [Act.put, List.setIfInBounds_toArray, List.set_cons_succ, List.set_cons_zero]))
    (refine grow_step rfl ?_; apply Exists.intro; refine ⟨fun ww hww => ?_, ?_⟩; (focus (unfold calmAt calmUpon; go_simp; first | rfl | exact ⟨rfl, hww⟩)); (simp only [Act.put, List.setIfInBounds_toArray, List.set_cons_succ, List.set_cons_zero]))
    (refine grow_step rfl ?_; apply Exists.intro; refine ⟨fun ww hww => ?_, ?_⟩; (focus (have cc := ROWC.out ww hww; unfold calmAt calmUpon; go_simp; first | rfl | exact ⟨rfl, hww⟩)); (simp only [Act.put, List.setIfInBounds_toArray, List.set_cons_succ, List.set_cons_zero]))
    (refine grow_step rfl ?_; apply Exists.intro; refine ⟨fun ww hww => ?_, ?_⟩; (focus (unfold calmAt calmUpon; go_simp; refine (SAME.out ww hww).mono ?_; rintro e w1 ⟨rfl, hb1⟩; exact ⟨rfl, hww.trans (hb1.mono hww.size)⟩)); (simp only [Act.put, List.setIfInBounds_toArray, List.set_cons_succ, List.set_cons_zero]))
    iterate 2 (refine grow_step rfl ?_; apply Exists.intro; refine ⟨fun ww hww => ?_, ?_⟩; (focus (unfold calmAt calmUpon; go_simp; first | rfl | exact ⟨rfl, hww⟩)); (simp only [Act.put, List.setIfInBounds_toArray, List.set_cons_succ, List.set_cons_zero]))
    refine calm_nil ?_
    intro W6 b6
    have c6 := CNTC.out W6 b6
    obtain ⟨e0, e1, e2⟩ := BOXC.out W6 b6
    have hh2 := HI.out.2.1
    rw [HCC.out] at hh2
    have k2 : W6.heap[C]? = some (.cells #[.int .i64 (pre.length : Int)] 3 (0, 0)) := (b6.block _ (Array.getElem?_eq_some_iff.1 hh2).1).trans hh2
    have f2 := frozen_blk k2 0
    have K2 := Lib.hid k2
    have B6 := Lib.hid b6
    have hp1 : (-9223372036854775808 : Int) ≤ (pre.length : Int) + 1 := by omega
    have hp2 : (pre.length : Int) + 1 ≤ 9223372036854775807 := by omega
    have hDC : D ≠ C := by have := HDW.out; have := HZ4.out; omega
    clear b6 hh2 k2
    gi_wp2_with fail
    have hbase : ∀ b, x.2.bv.ownBlock = some b → W4.heap.size ≤ b := HPX.out.2.2.1
    have o6 : ownB W6 x.2.bv x.2.bs := row_stays HPX.out.2.1 fun b hb => B6.out.block b (HPX.out.2.1.lt b hb).2
    have BU := Bumped.start o6
    have hDn : ∀ b, x.2.bv.ownBlock = some b → b ≠ D := fun b hb e => by
      subst e
      rcases HPX.out.2.1.2 with ⟨h, _⟩ | ⟨g, cap, cur, h, _, h3, _⟩
      · rw [h] at hb; cases hb
      · rw [h] at hb
        cases hb
        rw [HBX.out] at h3
        cases h3
    have hbx6 : W6.heap[D]? = some (.cells #[.string x.2.frm, .string x.2.to, x.2.bv] 35 (0, 0)) := (B6.out.block D (Array.getElem?_eq_some_iff.1 HBX.out).1).trans HBX.out
    rw [HBV.out] at BU
    obtain ⟨bn, hbn⟩ : ∃ bn, x.2.bs.length = bn := ⟨_, rfl⟩
    obtain ⟨ba, hba⟩ : ∃ ba, slA x.2.bv = ba := ⟨_, rfl⟩
    obtain ⟨bc, hbc⟩ : ∃ bc, slC x.2.bv = bc := ⟨_, rfl⟩
    have hbv2 := HBV.out
    rw [hbn, hba, hbc] at hbv2
    rw [hbn, hba, hbc] at BU
    have hbnl : bn ≤ 65536 := by omega
    have nb : ∀ b, b < W4.heap.size → (Value.slice ba bn bc).ownBlock ≠ some b := fun b hb e => by
      rw [← hbv2] at e
      have := hbase b e
      omega
    have CC : Hid (∀ wr, Bumped W6 wr (.slice ba bn bc) bn → wr.heap[C]? = some (.cells #[.int .i64 (pre.length : Int)] 3 (0, 0))) := Lib.hid fun wr h => (h.same C (nb C (by have := HZ4.out; omega))).trans K2.out
    have FIN : Hid (∀ wr, Bumped W6 wr (.slice ba bn bc) bn → KeepsFrom W4.heap.size W (wr.setCell ⟨C, 0, none⟩ (.int .i64 ((pre.length : Int) + 1))) ∧ KpS (SH v L) W (wr.setCell ⟨C, 0, none⟩ (.int .i64 ((pre.length : Int) + 1))) ∧ CInv W4 w3 none (pre ++ [x]).length (wr.setCell ⟨C, 0, none⟩ (.int .i64 ((pre.length : Int) + 1)))) := Lib.hid fun wr h => by
      have hz4 := HZ4.out
      have hcc := HCC.out
      have hsz : W.heap.size ≤ wr.heap.size := by rw [h.size]; exact B6.out.size
      refine ⟨⟨by rw [set_size]; exact hsz, fun k o hB hk hc => ?_⟩, ⟨by rw [set_size]; exact hsz, fun k hk => ?_⟩, ⟨?_, ?_, ?_, ?_, fun b hb => ?_⟩, ?_, ?_, by simp⟩
      · have hne : (Value.slice ba bn bc).ownBlock ≠ some k := fun e => by
          rw [← hbv2] at e
          rcases HPX.out.2.1.2 with ⟨h, _⟩ | ⟨g, cap, cur, h, _, h3, _⟩
          · rw [h] at e; cases e
          · rw [h] at e
            cases e
            rw [hk] at h3
            cases h3
            cases hc
        rw [set_other (show k ≠ C by omega), h.same k hne, B6.out.block k (Array.getElem?_eq_some_iff.1 hk).1]
        exact hk
      · have hkC := HVF.out k hk
        have hkW : k < W.heap.size := by have := HI.out.2.2.1; omega
        rw [set_other (show k ≠ C by omega), h.same k (nb k (by omega)), B6.out.block k hkW]
      · exact h.os.trans (B6.out.os.trans HI.out.1.os)
      · exact h.tape.trans (B6.out.tape.trans HI.out.1.tape)
      · exact h.output.trans (B6.out.output.trans HI.out.1.output)
      · rw [set_size]; exact Nat.le_trans HI.out.1.size hsz
      · have := HI.out.1.size
        have hww := HI.out.2.2.1
        rw [set_other (show b ≠ C by omega), h.same b (nb b (by omega)), B6.out.block b (by omega), HI.out.1.block b hb]
      · rw [hcc]
        have := set_at (i := 0) (v := .int .i64 ((pre.length : Int) + 1)) (CC.out wr h)
        simpa using this
      · rw [set_size]; exact Nat.le_trans HI.out.2.2.1 hsz
    have DC : Hid (∀ wr, Bumped W6 wr (.slice ba bn bc) bn → wr.cell? ⟨D, 2, none⟩ = some (.slice ba bn bc)) := Lib.hid fun wr h => by
      have := (h.same D (fun e => hDn D (by rw [hbv2]; exact e) rfl)).trans hbx6
      rw [cell_of_row _ _ _ _ _ _ this, hbv2]; rfl
    have HBU := Lib.hid BU
    rw [hbn, hba, hbc]
    clear hbase o6 BU hDn hbx6 hbn hba hbc hbv2 f2 c6 e0 e1 e2 nb
    gi_loopw [10] (fun i wr => ∃ k : Nat, i = .int .i64 k ∧ k ≤ bn ∧ Bumped W6 wr (.slice ba bn bc) bn) (fun i _ => bn - (intOf i).toNat)
    case atStart => exact ⟨0, rfl, Nat.zero_le _, HBU.out⟩
    case round =>
      obtain ⟨k, rfl, hk, hB⟩ := hrel
      have dc := DC.out wr hB
      by_cases hkl : k < bn
      · obtain ⟨g, rfl⟩ := hB.addr (by omega)
        obtain ⟨u, m0, g0, nx⟩ := hB.byte hkl
        have NX := Lib.hid nx
        clear nx hB
        gi_wp2_with fail
        go_roundw
        case rel => exact ⟨k + 1, by simp, by omega, NX.out _⟩
        case measure => simp [intOf]; omega
      · obtain rfl : k = bn := by omega
        have cc := CC.out wr hB
        have c0 : wr.cell? ⟨C, 0, none⟩ = some (.int .i64 (pre.length : Int)) := by rw [cell_of_row _ _ _ _ _ _ cc]; rfl
        have g0 := frozen_blk cc 0
        clear cc
        gi_wp2_with fail
        exact FIN.out wr hB
  case done =>
    rintro D1 xs W hD1 hxs hI hK1
    have hxl : xs.length = RN.hist.length := by
      have h1 := congrArg List.length hxs
      rw [List.length_map, HLl.out, HP.out.sim.hist] at h1
      rw [h1]
      simp [upP, RNet.abs]
    rw [hxl] at hI
    have hn2 := HN2.out
    have hC1 := hI.2.1
    rw [HCC.out, ← hn2] at hC1
    obtain ⟨m0, m1, m2, m3⟩ := NET3.out W hI.1
    have c0 : W.cell? ⟨C, 0, none⟩ = some (.int .i64 (n2 : Nat)) := by rw [cell_of_row _ _ _ _ _ _ hC1]; rfl
    have g0 := frozen_blk hC1 0
    have HC1 := Lib.hid hC1
    have HI := Lib.hid hI
    have HK1 := Lib.hid hK1
    have hD1W : D1 < W.heap.size := (Array.getElem?_eq_some_iff.1 hK1).1
    clear hxs hI hK1 hxl hC1 hn2
    dsimp only
    go_wp2_with fail
    obtain ⟨W5, hW5⟩ : ∃ W5, W5 = W.setCell ⟨C, 0, none⟩ (.int .i64 0) := ⟨_, rfl⟩
    have z5 : W5.heap.size = W.heap.size := by rw [hW5, set_size]
    have hz4 := HZ4.out
    have hcc := HCC.out
    have hwz := HI.out.2.2.1
    have s5 : ∀ b, b ≠ C → W5.heap[b]? = W.heap[b]? := fun b h => by rw [hW5, set_other h]
    have y5 : W5.heap[C]? = some (.cells #[.int .i64 0] 3 (0, 0)) := by rw [hW5]; exact set_at HC1.out
    have B35 : Below w3.heap.size w3 W5 := by rw [hW5]; exact HI.out.1.setCell (p := ⟨C, 0, none⟩) (by show w3.heap.size ≤ C; omega) _
    have hBs : W5.heap[B2]? = some (.cells #[v2] 26 (0, 0)) := by
      have h1 := (Array.getElem?_eq_some_iff.1 HE1.out).1
      have h2 := HB23.out.size
      exact (B35.block _ (by omega)).trans ((HB23.out.block _ h1).trans HE1.out)
    have hI0 : W5.ownsRow 0 59 3 v2 A.evs.length (A.evs.flatMap Ev.cells) := row_stays HE2.out fun b hb => by
      have h1 := (HE2.out.lt b hb).2
      have h2 := HB23.out.size
      exact (B35.block _ (by omega)).trans (HB23.out.block _ h1)
    have hD1C : D1 ≠ C := by omega
    have hD5 : W5.heap[D1]? = some (.deferred (some [])) := (s5 D1 hD1C).trans HK1.out
    have START2 : CInv W5 w3 (some D1) 0 W5 := ⟨B35, by rw [hcc]; exact y5, Nat.le_refl _, fun d hd => by cases hd; exact hD5⟩
    have he1 : A.evs.length ≤ 1000000 := HT.out.evs
    rw [← hW5]
    have HZ5 := Lib.hid z5
    have HB35 := Lib.hid B35
    clear hW5 s5 y5 B35 hD5 z5 m0 m1 m2 m3 c0 g0
    refine (wpIn_wide (n := 3)).1 ?_
    refine range_evx1 ?a2 rfl he1 hBs hI0 (fun pre W => CInv W5 w3 (some D1) pre.length W) (fun _ _ _ => False)
      (CInv.own (by have := HZ5.out; omega) (fun d hd => by cases hd; have := HZ5.out; omega) List.length) (fun _ _ _ _ _ hs _ _ => hs) START2 ?assign ?body ?done ?stop
    case stop => exact fun D c k W _ _ h _ => h.elim
    case assign =>
      rintro l pre x W K hI hx hK
      have bb : Below W.heap.size W (W.alloc (.cells #[.int .i64 x.2.kind, .int .i64 x.2.id, .int .i64 x.2.frm] 59)) := (Below.refl _ _).alloc (Nat.le_refl _) _
      have HI1 := Lib.hid hI
      have HK := Lib.hid hK
      have hWs : W5.heap.size ≤ W.heap.size := hI.2.2.1
      have HKP : Hid (KpR v2.ownBlock W (W.alloc (.cells #[.int .i64 x.2.kind, .int .i64 x.2.id, .int .i64 x.2.frm] 59))) := Lib.hid ⟨by simp, fun k e => old_at (by have h1 := HVE.out k e; have := HZ5.out; omega)⟩
      have HI2 : Hid (CInv W5 w3 (some D1) pre.length (W.alloc (.cells #[.int .i64 x.2.kind, .int .i64 x.2.id, .int .i64 x.2.frm] 59))) := Lib.hid ⟨HI1.out.1.trans (bb.mono HI1.out.1.size), (bb.block _ (Array.getElem?_eq_some_iff.1 HI1.out.2.1).1).trans HI1.out.2.1, Nat.le_trans hWs bb.size, fun d hd => (bb.block _ (Array.getElem?_eq_some_iff.1 (HI1.out.2.2.2 d hd)).1).trans (HI1.out.2.2.2 d hd)⟩
      clear hI hx hK
      simp only [encE, List.zip_toArray, List.zip_cons_cons, List.zip_nil_right, List.foldl_toArray, List.foldl_cons, List.foldl_nil, List.setIfInBounds_toArray, List.set_cons_succ, List.set_cons_zero]
      gi_wp2
      have NW : (W.alloc (.cells #[.int .i64 x.2.kind, .int .i64 x.2.id, .int .i64 x.2.frm] 59)).heap[W.heap.size]? = some (.cells #[.int .i64 x.2.kind, .int .i64 x.2.id, .int .i64 x.2.frm] 59 (0, 0)) := new_at rfl
      have HK' := HK.out
      have ED : ∃ D, W.heap.size = D := ⟨_, rfl⟩
      obtain ⟨D, hD⟩ := ED
      rw [hD] at NW hWs ⊢
      exact HK' D _ (keepsFrom_below bb) HKP.out HI2.out NW hWs
    case body =>
      rintro l pre x D W hI hbx hDW hxe hlt
      have hevs : A.evs = RN.evs := HP.out.sim.evs
      have hbW : Below w.heap.size w W := B3.out.trans (hI.1.mono B3.out.size)
      have RW := HR.out.below hbW
      rw [hevs] at hlt hxe
      obtain ⟨g0, c0, hve⟩ := slice_box RW.e (by omega)
      have ea := HA3.out
      rw [hve] at ea
      simp only [Value.slice.injEq] at ea
      obtain ⟨ea1, ea2, ea3⟩ := ea
      have re := RW.e
      rw [hve] at re
      have hgl : g0 < W.heap.size := (re.lt g0 rfl).2
      obtain ⟨E0, E1, E2⟩ := ev_at re hlt rfl
      have a3e : a3 = some ⟨g0, 0, none⟩ := ea1.symm
      subst a3e
      have hpn : pre.length < n3 := by rw [← ea2]; exact hlt
      have NETC : Hid (∀ ww, Below W.heap.size W ww → ww.cell? ⟨w.heap.size, 0, none⟩ = some (.slice a1 n1 k1) ∧ ww.cell? ⟨w.heap.size, 1, none⟩ = some (.slice a2 n2 k2) ∧ ww.cell? ⟨w.heap.size, 2, none⟩ = some (.slice (some ⟨g0, 0, none⟩) n3 k3) ∧ ww.cell? ⟨w.heap.size, 3, none⟩ = some (.slice a4 n4 k4)) := Lib.hid fun ww hww =>
        NET3.out ww (hI.1.trans (hww.mono hI.1.size))
      have CNTC : Hid (∀ ww, Below W.heap.size W ww → ww.cell? ⟨C, 0, none⟩ = some (.int .i64 (pre.length : Int))) := Lib.hid fun ww hww => by
        have h2 := hI.2.1
        rw [HCC.out] at h2
        have h := (hww.block _ (Array.getElem?_eq_some_iff.1 h2).1).trans h2
        rw [cell_of_row _ _ _ _ _ _ h]; rfl
      obtain ⟨ev, hev⟩ : ∃ ev, evAt RN.evs pre.length = ev := ⟨_, rfl⟩
      rw [hev] at hxe E0 E1 E2
      subst hxe
      dsimp only at hbx
      have BOXC : Hid (∀ ww, Below W.heap.size W ww → ww.cell? ⟨D, 0, none⟩ = some (.int .i64 ev.kind) ∧ ww.cell? ⟨D, 1, none⟩ = some (.int .i64 ev.id) ∧ ww.cell? ⟨D, 2, none⟩ = some (.int .i64 ev.frm)) := Lib.hid fun ww hww => by
        have h := (hww.block _ (Array.getElem?_eq_some_iff.1 hbx).1).trans hbx
        exact ⟨by rw [cell_of_row _ _ _ _ _ _ h]; rfl, by rw [cell_of_row _ _ _ _ _ _ h]; rfl, by rw [cell_of_row _ _ _ _ _ _ h]; rfl⟩
      have ROWC : Hid (∀ ww, Below W.heap.size W ww → ww.cell? ⟨g0, pre.length * 3, none⟩ = some (.int .i64 ev.kind) ∧ ww.cell? ⟨g0, pre.length * 3 + 1, none⟩ = some (.int .i64 ev.id) ∧ ww.cell? ⟨g0, pre.length * 3 + 2, none⟩ = some (.int .i64 ev.frm)) := Lib.hid fun ww hww =>
        ⟨bcells hww hgl E0, bcells hww hgl E1, bcells hww hgl E2⟩
      have hge1 : decide ((pre.length : Int) ≥ (n3 : Int)) = false := by simp; omega
      have hge2 : decide (n3 ≤ pre.length) = false := by simp; omega
      have HI := Lib.hid hI
      have hnl2 : n3 ≤ 1000000 := by rw [← ea2]; exact HSM.out.evs
      clear hI hbx hDW E0 E1 E2 hve ea1 ea2 ea3 re RW hbW hgl hlt hev hevs
      gi_wp2_with fail
      refine wpIn_region_grow (by kernel_rfl) (by kernel_rfl) (by kernel_rfl) ?_
      (refine grow_step rfl ?_; apply Exists.intro; refine ⟨fun ww hww => ?_, ?_⟩; (focus (unfold calmAt calmUpon; go_simp; first | rfl | exact ⟨rfl, hww⟩)); (simp only [Act.put, List.setIfInBounds_toArray, List.set_cons_succ, List.set_cons_zero]))
      (refine grow_step rfl ?_; apply Exists.intro; refine ⟨fun ww hww => ?_, ?_⟩; (focus (have cc := CNTC.out ww hww; unfold calmAt calmUpon; go_simp; first | rfl | exact ⟨rfl, hww⟩)); (simp only [Act.put, List.setIfInBounds_toArray, List.set_cons_succ, List.set_cons_zero]))
      iterate 2 (refine grow_step rfl ?_; apply Exists.intro; refine ⟨fun ww hww => ?_, ?_⟩; (focus (unfold calmAt calmUpon; go_simp; first | rfl | exact ⟨rfl, hww⟩)); (simp only [Act.put, List.setIfInBounds_toArray, List.set_cons_succ, List.set_cons_zero]))
      (refine grow_step rfl ?_; apply Exists.intro; refine ⟨fun ww hww => ?_, ?_⟩; (focus (have cc := CNTC.out ww hww; unfold calmAt calmUpon; go_simp; first | rfl | exact ⟨rfl, hww⟩)); (simp only [Act.put, List.setIfInBounds_toArray, List.set_cons_succ, List.set_cons_zero]))
      (refine grow_step rfl ?_; apply Exists.intro; refine ⟨fun ww hww => ?_, ?_⟩; (focus (unfold calmAt calmUpon; go_simp; first | rfl | exact ⟨rfl, hww⟩)); (simp only [Act.put, List.setIfInBounds_toArray, List.set_cons_succ, List.set_cons_zero]))
      (refine grow_step rfl ?_; apply Exists.intro; refine ⟨fun ww hww => ?_, ?_⟩; (focus (have cc := NETC.out ww hww; unfold calmAt calmUpon; go_simp; first | rfl | exact ⟨rfl, hww⟩)); (simp only [Act.put, List.setIfInBounds_toArray, List.set_cons_succ, List.set_cons_zero]))
      iterate 4 (refine grow_step rfl ?_; apply Exists.intro; refine ⟨fun ww hww => ?_, ?_⟩; (focus (unfold calmAt calmUpon; go_simp; first | rfl | exact ⟨rfl, hww⟩)); (simp only [Act.put, List.setIfInBounds_toArray, List.set_cons_succ, List.set_cons_zero]))
      (refine grow_step rfl ?_; apply Exists.intro; refine ⟨fun ww hww => ?_, ?_⟩; (focus (have cc := BOXC.out ww hww; unfold calmAt calmUpon; go_simp; first | rfl | exact ⟨rfl, hww⟩)); (simp only [Act.put, List.setIfInBounds_toArray, List.set_cons_succ, List.set_cons_zero]))
      (refine grow_step rfl ?_; apply Exists.intro; refine ⟨fun ww hww => ?_, ?_⟩; (focus (unfold calmAt calmUpon; go_simp; first | rfl | exact ⟨rfl, hww⟩)); (simp only [Act.put, List.setIfInBounds_toArray, List.set_cons_succ, List.set_cons_zero]))
      (refine grow_step rfl ?_; apply Exists.intro; refine ⟨fun ww hww => ?_, ?_⟩; (focus (have cc := NETC.out ww hww; unfold calmAt calmUpon; go_simp; first | rfl | exact ⟨rfl, hww⟩)); (simp only [Act.put, List.setIfInBounds_toArray, List.set_cons_succ, List.set_cons_zero]))
      (refine grow_step rfl ?_; apply Exists.intro; refine ⟨fun ww hww => ?_, ?_⟩; (focus (have cc := CNTC.out ww hww; unfold calmAt calmUpon; go_simp; first | rfl | exact ⟨rfl, hww⟩)); (simp only [Act.put, List.setIfInBounds_toArray, List.set_cons_succ, List.set_cons_zero]))
      (refine grow_step rfl ?_; apply Exists.intro; refine ⟨fun ww hww => ?_, ?_⟩; (focus (unfold calmAt calmUpon; go_simp; first | rfl | exact ⟨rfl, hww⟩)); (simp only [Act.put, List.setIfInBounds_toArray, List.set_cons_succ, List.set_cons_zero]))
      (refine grow_step rfl ?_; apply Exists.intro; refine ⟨fun ww hww => ?_, ?_⟩; (focus (have cc := ROWC.out ww hww; unfold calmAt calmUpon; go_simp; first | rfl | exact ⟨rfl, hww⟩)); (simp only [Act.put, List.setIfInBounds_toArray, List.set_cons_succ, List.set_cons_zero]))
      iterate 2 (refine grow_step rfl ?_; apply Exists.intro; refine ⟨fun ww hww => ?_, ?_⟩; (focus (unfold calmAt calmUpon; go_simp; first | rfl | exact ⟨rfl, hww⟩)); (simp only [Act.put, List.setIfInBounds_toArray, List.set_cons_succ, List.set_cons_zero]))
      refine calm_nil ?_
      intro W6 b6
      have c6 := CNTC.out W6 b6
      have hh2 := HI.out.2.1
      rw [HCC.out] at hh2
      have k2 : W6.heap[C]? = some (.cells #[.int .i64 (pre.length : Int)] 3 (0, 0)) := (b6.block _ (Array.getElem?_eq_some_iff.1 hh2).1).trans hh2
      have f2 := frozen_blk k2 0
      have K2 := Lib.hid k2
      have B6 := Lib.hid b6
      have hp1 : (-9223372036854775808 : Int) ≤ (pre.length : Int) + 1 := by omega
      have hp2 : (pre.length : Int) + 1 ≤ 9223372036854775807 := by omega
      have FIN : Hid (KeepsFrom W5.heap.size W (W6.setCell ⟨C, 0, none⟩ (.int .i64 ((pre.length : Int) + 1))) ∧ KpR v2.ownBlock W (W6.setCell ⟨C, 0, none⟩ (.int .i64 ((pre.length : Int) + 1))) ∧ CInv W5 w3 (some D1) (pre ++ [((pre.length, ev) : Nat × Ev)]).length (W6.setCell ⟨C, 0, none⟩ (.int .i64 ((pre.length : Int) + 1)))) := Lib.hid (by
        have hz5 := HZ5.out
        have hW5W := HI.out.2.2.1
        refine ⟨(keepsFrom_below B6.out).trans ((KeepsOthers.setCell _ _ _).from _), ⟨by rw [set_size]; exact B6.out.size, fun k e => (set_other (show k ≠ C by have := HVE.out k e; omega)).trans (B6.out.block k (by have := HVE.out k e; omega))⟩, ?_, ?_, ?_, fun d hd => ?_⟩
        · exact (HI.out.1.trans (B6.out.mono HI.out.1.size)).setCell (p := ⟨C, 0, none⟩) (by show w3.heap.size ≤ C; omega) _
        · rw [hcc]
          have := set_at (i := 0) (v := .int .i64 ((pre.length : Int) + 1)) K2.out
          simpa using this
        · rw [set_size]; exact Nat.le_trans hW5W B6.out.size
        · cases hd
          have h := HI.out.2.2.2 D1 rfl
          rw [set_other (show D1 ≠ C from hD1C), B6.out.block D1 (Array.getElem?_eq_some_iff.1 h).1]
          exact h)
      clear b6 hh2 k2
      gi_wp2_with fail
      exact FIN.out
    case done =>
      rintro D2 W7 hD2 hI7 hK7
      rw [upE_length, HP.out.sim.evs] at hI7
      have hn3 := HN3.out
      have hC7 := hI7.2.1
      have e3 : RN.abs.evs.length = n3 := hn3.symm
      rw [HCC.out, e3] at hC7
      have m0 := (NET3.out W7 hI7.1).2.2.1
      have c0 : W7.cell? ⟨C, 0, none⟩ = some (.int .i64 (n3 : Nat)) := by rw [cell_of_row _ _ _ _ _ _ hC7]; rfl
      have xr : W7.heap[w.heap.size + 1]? = some (.cells #[.bool false] 4 (0, 0)) := (hI7.1.block _ (by omega)).trans HX23.out
      have g0 := frozen_blk xr 0
      have m1 : W7.cell? ⟨w.heap.size + 1, 0, none⟩ = some (.bool false) := by rw [cell_of_row _ _ _ _ _ _ xr]; rfl
      have d1 := hI7.2.2.2 D1 rfl
      have HB7 : Hid (Below w.heap.size w W7) := Lib.hid (B3.out.trans (hI7.1.mono B3.out.size))
      have HXR := Lib.hid xr
      have HD1 := Lib.hid d1
      have HD2 := Lib.hid hK7
      have hz5 := HZ5.out
      clear hI7 hK7 hC7 e3 hn3 xr d1
      dsimp only
      go_wp2_with fail
      have hD12 : D1 ≠ D2 := by omega
      have hR1 : D1 ≠ w.heap.size + 1 := by omega
      have hR2 : D2 ≠ w.heap.size + 1 := by omega
      obtain ⟨W8, hW8⟩ : ∃ W8, W8 = W7.setCell ⟨w.heap.size + 1, 0, none⟩ (.bool true) := ⟨_, rfl⟩
      rw [← hW8]
      have e1 : W8.heap[D1]? = some (.deferred (some [])) := by rw [hW8, set_other hR1]; exact HD1.out
      have e2 : W8.heap[D2]? = some (.deferred (some [])) := by rw [hW8, set_other hR2]; exact HD2.out
      have e3 : W8.heap[w.heap.size + 1]? = some (.cells #[.bool true] 4 (0, 0)) := by rw [hW8]; exact set_at HXR.out
      have e1' : (W8.putObj D2 (.deferred none)).heap[D1]? = some (.deferred (some [])) := (World.putObj_heap_other hD12).trans e1
      refine ⟨by simp, .inl ⟨_, _, rfl, run_takeDeferred e2, by simp, .inl ⟨_, _, rfl, run_takeDeferred e1', ?_⟩⟩⟩
      have e4 : ((W8.putObj D2 (.deferred none)).putObj D1 (.deferred none)).heap[w.heap.size + 1]? = some (.cells #[.bool true] 4 (0, 0)) := (World.putObj_heap_other (Ne.symm hR1)).trans ((World.putObj_heap_other (Ne.symm hR2)).trans e3)
      have f0 : ((W8.putObj D2 (.deferred none)).putObj D1 (.deferred none)).cell? ⟨w.heap.size + 1, 0, none⟩ = some (.bool true) := by rw [cell_of_row _ _ _ _ _ _ e4]; rfl
      have bw : Below w.heap.size w W8 := by
        rw [hW8]
        exact HB7.out.setCell (p := ⟨_, _, _⟩) (by show w.heap.size ≤ w.heap.size + 1; omega) _
      exact ⟨.bool true, by simp [results, Try.results33, go_sem, f0], rfl, (bw.trans (belowK_b (w := w) (Nat.le_refl _) _ D2 _ _ (by omega) e2 rfl rfl)).trans (belowK_b (w := w) (Nat.le_refl _) _ D1 _ _ (by omega) e1' rfl rfl)⟩
end Go.Proofs.Ytiindnmelegkgaa

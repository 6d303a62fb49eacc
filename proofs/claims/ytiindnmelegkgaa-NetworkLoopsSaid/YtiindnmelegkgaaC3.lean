/- Loops over the iterators; sent: whether a packet lies in the history. -/
import Derived.Test.YtiindnmelegkgaaC2
import Derived.Test.YtiindnmelegkgaaKnown
namespace Go.Proofs.Ytiindnmelegkgaa
open Go.RowKit Go.Shelf
set_option linter.unusedSimpArgs false
set_option linter.unusedVariables false
attribute [local go_sem] Oper.semAt_some

def sameQ (a b : APk) : Bool := (a.frm.toList == b.frm.toList) && (a.to.toList == b.to.toList) && ((strOfNums a.bs).toList == (strOfNums b.bs).toList)
theorem sameS_abs (a b : Pk) : sameS a b = sameQ a.abs b.abs := rfl
theorem eqlFn53 (B : Nat) (w : World) : (binOp .eql 52 (.func (.func 53) #[] #[.pointer (some ⟨B, 0, none⟩)]) .nilFunc).run Try.prog w = .ok (.bool false) w := by kernel_rfl
theorem eqlFn43 (B : Nat) (w : World) : (binOp .eql 52 (.func (.func 43) #[] #[.pointer (some ⟨B, 0, none⟩)]) .nilFunc).run Try.prog w = .ok (.bool false) w := by kernel_rfl
theorem keepsFrom_below {B : Nat} {W W' : World} (h : Below W.heap.size W W') : KeepsFrom B W W' := ⟨h.size, fun k o _ hk _ => (h.block k (Array.getElem?_eq_some_iff.1 hk).1).trans hk⟩
theorem own_grown {W W' : World} {row : Option Nat} {v : Value} {bs : List Int} (h : ownB W v bs) (hg : W.grownBy W' row) (hr : ∀ r, row = some r → ∃ o : Obj, W.heap[r]? = some o ∧ o.isCells = false) : ownB W' v bs :=
  row_stays h fun b hb => by
    obtain ⟨lo, hl⟩ := h.lt b hb
    refine hg.block b hl fun e => ?_
    obtain ⟨o, ho, hc⟩ := hr b e.symm
    rcases h.2 with ⟨rfl, _⟩ | ⟨g, cap, cur, rfl, _, h3, _⟩
    · cases hb
    · cases hb
      rw [h3] at ho
      cases ho
      cases hc
theorem upP_any {H : List APk} {k : Nat} (hk : k ≤ H.length) {xs : List (Nat × Pk)} (h : xs.map absP = upP H k) {x : Nat × Pk} (hx : x ∈ xs) : x.2.abs ∈ H := by
  have h1 : absP x ∈ upP H k := by rw [← h]; exact List.mem_map_of_mem hx
  unfold upP at h1
  obtain ⟨j, hj, e⟩ := List.mem_map.1 h1
  have hj' : j < H.length := by have := List.mem_range.1 hj; omega
  have e2 : H.getD j zeroA = x.2.abs := congrArg Prod.snd e
  rw [← e2]
  simp [List.getD, List.getElem?_eq_getElem hj']
theorem upP_all {H : List APk} {xs : List (Nat × Pk)} (h : xs.map absP = upP H H.length) {y : APk} (hy : y ∈ H) : ∃ x ∈ xs, x.2.abs = y := by
  obtain ⟨j, hj, rfl⟩ := List.mem_iff_getElem.1 hy
  have h1 : (j, H[j]) ∈ upP H H.length := by
    unfold upP
    exact List.mem_map.2 ⟨j, List.mem_range.2 hj, by simp [List.getD, List.getElem?_eq_getElem hj]⟩
  rw [← h] at h1
  obtain ⟨x, hx, e⟩ := List.mem_map.1 h1
  exact ⟨x, hx, congrArg Prod.snd e⟩
theorem pxH_own (B base : Nat) (H : List APk) (pre : List (Nat × Pk)) (x : Nat × Pk) : OwnFrom B (fun (_ : Unit) W => PxH base H pre x W) := fun _ W W' row h hg hr => ⟨h.1, own_grown h.2.1 hg fun r e => (hr r e).2, h.2.2⟩
theorem pxF_own (B base : Nat) (H : List AFl) (pre : List (Nat × Pk)) (x : Nat × Pk) : OwnFrom B (fun (_ : Unit) W => PxF base H pre x W) := fun _ W W' row h hg hr => ⟨h.1, own_grown h.2.1 hg fun r e => (hr r e).2, h.2.2⟩

/-- A loop over one of the iterators that hand out packets. -/
theorem range_px {assign body : Code} {g : Operand} {p1 p2 : Tmp} {Q : Exit → Act → World → Prop} {a : Act} {w : World} {gf : Nat} {lb : Array Value} {Px : List (Nat × Pk) → (Nat × Pk) → World → Prop} {S : Nat → Prop} {Sd Sp : List (Nat × Pk) → Prop} {M : Nat}
    (hg : a.eval g = .func (.func gf) #[] lb) (eg : ∀ args w, (callFunc gf args).run Try.prog w = .ok (.enter gf args) w)
    (hseq : SeqPx Fence.wide 2 Try.prog gf lb encP Px (KpS S) Sd Sp M w) (hS : ∀ k, S k → k < w.heap.size)
    (I : List (Nat × Pk) → World → Prop) (Ix : Code → List (Nat × Pk) → World → Prop) (hI : OwnFrom w.heap.size I) (hIx : ∀ c, OwnFrom w.heap.size (Ix c)) (h0 : I [] w)
    (Ax : List (Nat × Pk) → (Nat × Pk) → Act → World → Prop) (hAx : ∀ pre x a', OwnFrom w.heap.size (fun (_ : Unit) W => Ax pre x a' W))
    (hassign : ∀ (l : Nat) (pre : List (Nat × Pk)) (x : Nat × Pk) (W : World) (K : Act → World → Prop), I pre W → Px pre x W → (∀ a' W', KeepsFrom w.heap.size W W' → KpS S W W' → I pre W' → Ax pre x a' W' → K a' W') →
      assign.wpIn (Fence.wide.inRound l) (3 - 1 - 1) Try.prog (Exit.then K (fun _ _ _ => False)) { tmps := (#[p1, p2].zip (encP x)).foldl (fun t (p, v) => t.setIfInBounds p v) a.tmps, defers := [] } W)
    (hbody : ∀ (l : Nat) (pre : List (Nat × Pk)) (x : Nat × Pk) (a' : Act) (W : World), I pre W → Ax pre x a' W → pre.length < M → body.wpIn (Fence.wide.inRound l) (3 - 1 - 1) Try.prog (ownPostG w.heap.size (KpS S) I Ix (pre ++ [x]) W) a' W)
    (hdone : ∀ (D : Nat) (xs : List (Nat × Pk)) (W : World), w.heap.size ≤ D → Sd xs → I xs W → W.heap[D]? = some (.deferred (some [])) → Q .normal { a with defers := { target := .collected D, args := #[] } :: a.defers } W)
    (hstop : ∀ (D : Nat) (c : Code) (pre : List (Nat × Pk)) (W : World), w.heap.size ≤ D → Sp pre → Ix c pre W → W.heap[D]? = some (.deferred (some [])) → c.wpIn Fence.wide 3 Try.prog Q { a with defers := { target := .collected D, args := #[] } :: a.defers } W) :
    (Code.rangeFunc g #[p1, p2] assign body).wpIn Fence.wide 3 Try.prog Q a w :=
  wpIn_range_px (F := Fence.wide) (n := 3) rfl (by decide) hg trivial eg hseq (fun h k => h.trans k) (fun W l o o' hl h hc hw => KpS.put hS W l o o' hl h hc hw) (Below.refl _ _) (fun _ => rfl) I Ix hI hIx h0
    Ax hAx hassign hbody hdone hstop

set_option maxHeartbeats 2000000 in
set_option maxRecDepth 100000 in
theorem sent_any {ρ : Nat → Nat} {w : World} {p : Nat} {N : Net} (R : Rep ρ w p N) (S : Small N) (q : Pk) (hr : rdB w q.bv q.bs) :
    Calls Try.prog 17 #[.pointer (some ⟨p, 0, none⟩), q.val] w fun e w' => e = .returned (.bool ((N.hist.map Pk.abs).any (sameQ q.abs))) ∧ Below w.heap.size w w' := by
  obtain ⟨W0, hW0⟩ : ∃ W0, W0 = (w.alloc (.cells #[.string q.frm, .string q.to, q.bv] 35)).alloc (.cells #[.bool false] 4) := ⟨_, rfl⟩
  have b0 : Below w.heap.size w W0 := by rw [hW0]; exact ((Below.refl _ _).alloc (Nat.le_refl _) _).alloc (by simp) _
  have z0 : W0.heap.size = w.heap.size + 2 := by rw [hW0]; simp
  have x0 : W0.heap[w.heap.size]? = some (.cells #[.string q.frm, .string q.to, q.bv] 35 (0, 0)) := by rw [hW0, old_at (by simp)]; exact new_at rfl
  have y0 : W0.heap[w.heap.size + 1]? = some (.cells #[.bool false] 4 (0, 0)) := by rw [hW0]; exact new_at (by simp)
  have R0 := R.below b0
  have r0 := hr.below b0
  obtain ⟨qa, qn, qc, hqv, hqn⟩ := hr.lt
  have HH := Lib.hid (history_any R0 S)
  have HR := Lib.hid R0
  have HP := Lib.hid r0
  have HB := Lib.hid b0
  have HX := Lib.hid x0
  have HY := Lib.hid y0
  have HQ := Lib.hid hqv
  have HS := Lib.hid S
  have HW := Lib.hid hW0
  have HZ := Lib.hid z0
  clear R S hr R0 r0 b0 x0 y0 hqn hW0 z0
  unfold Pk.val
  rw [hqv]
  have qf := eqlFn53
  rw [hqv] at HW
  clear hqv
  refine (callsIn_wide (n := 3)).1 ?_
  refine callsIn_of_wp_marks Try.func17 rfl trivial ?_ rfl
  simp only [Try.ntmps17, List.size_toArray, List.length_cons, List.length_nil, Nat.reduceAdd, Nat.reduceSub, Array.replicate_succ, Array.replicate_zero, List.push_toArray, List.append_toArray, List.nil_append, List.cons_append]
  refine wpIn_wide.2 ?_
  go_wp2_with fail
  rw [← HW.out]
  refine HH.out.mono ?_
  rintro e w1 ⟨⟨B, v, rfl, HI⟩, hb1⟩
  have HI := Lib.hid HI
  have HB1 := Lib.hid hb1
  clear hb1
  go_wp2_with fail
  have b1 : Below w.heap.size w w1 := HB.out.trans (HB1.out.mono HB.out.size)
  have R1 := HR.out.below HB1.out
  have hn1 : W0.heap.size ≤ w1.heap.size := HB1.out.size
  have z := HZ.out
  have m1 : w1.heap[w.heap.size]? = some (.cells #[.string q.frm, .string q.to, .slice qa qn qc] 35 (0, 0)) := by rw [← HQ.out]; exact (HB1.out.block _ (by omega)).trans HX.out
  have m2 : w1.heap[w.heap.size + 1]? = some (.cells #[.bool false] 4 (0, 0)) := (HB1.out.block _ (by omega)).trans HY.out
  have r1 : rdB w1 q.bv q.bs := HP.out.below HB1.out
  have hlen : N.hist.length ≤ 1000000 := HS.out.hist
  have HB1' := Lib.hid b1
  have HRr := Lib.hid r1
  have M1 := Lib.hid m1
  have M2 := Lib.hid m2
  have HH' := Lib.hid (R1.hb)
  have HOK := Lib.hid (R1.hok)
  clear m1 m2 r1 b1 R1 HR HP HX HY HB HB1 HW HH qf
  have HSS : Hid (∀ k, SH v N.hist k → k < w1.heap.size) := Lib.hid fun k hk => by
    rcases hk with hk | ⟨q', hq', hk⟩
    · exact (HI.out.row.lt k hk).2
    · exact ((HH'.out q' hq').lt k hk).2
  refine (wpIn_wide (n := 3)).1 ?_
  refine range_px rfl (enters_of Try.func53 (by kernel_rfl) rfl) (hist53_px 2 B W0.heap.size v N.hist w1 hlen HI.out.box HI.out.row HH'.out (fun q' hq' => by have h := HOK.out q' hq'; simp only [validB, Bool.and_eq_true, decide_eq_true_eq] at h; exact h.2) hn1)
    HSS.out
    (fun pre W => Below w1.heap.size w1 W ∧ ∀ x ∈ pre, sameQ q.abs x.2.abs = false)
    (fun c pre W => c = .ret ∧ (∃ x ∈ pre, sameQ q.abs x.2.abs = true) ∧ W.heap[w.heap.size + 1]? = some (.cells #[.bool true] 4 (0, 0)) ∧ Below w.heap.size w W)
    (fun s W W' row h hg hr => ⟨h.1.grown hg h.1.size (fun k e => (hr k e).1), h.2⟩)
    (fun c s W W' row h hg hr => ⟨h.1, h.2.1, (hg.block _ (Array.getElem?_eq_some_iff.1 h.2.2.1).1 (fun e => by
      obtain ⟨_, o, ho, hc⟩ := hr _ e.symm
      rw [h.2.2.1] at ho
      cases ho
      cases hc)).trans h.2.2.1, h.2.2.2.grown hg h.2.2.2.size (fun k e => by have := (hr k e).1; have := HB1'.out.size; omega)⟩)
    ⟨Below.refl _ _, by simp⟩
    (fun pre x a' W => ∃ D7 va vn vc, a' = { tmps := #[.pointer (some ⟨p, 0, none⟩), .agg #[.string q.frm, .string q.to, .slice qa qn qc], undef, .pointer (some ⟨w.heap.size, 0, none⟩), .pointer (some ⟨w.heap.size + 1, 0, none⟩), .func (.func 53) #[] #[.pointer (some ⟨B, 0, none⟩)], undef, .pointer (some ⟨D7, 0, none⟩), .pointer (some ⟨p, 0, none⟩), .func (.func 53) #[] #[.pointer (some ⟨B, 0, none⟩)], .func (.func 53) #[] #[.pointer (some ⟨B, 0, none⟩)], .bool false, .func (.func 53) #[] #[.pointer (some ⟨B, 0, none⟩)], .int .i64 (x.1 : Int), .agg #[.string x.2.frm, .string x.2.to, .slice va vn vc], undef, undef, undef], defers := [] } ∧ x.2.bv = .slice va vn vc ∧ W.heap[D7]? = some (.cells #[.string x.2.frm, .string x.2.to, .slice va vn vc] 35 (0, 0)) ∧ w1.heap.size ≤ D7 ∧ PxH W0.heap.size (N.hist.map Pk.abs) pre x W)
    ?own ?assign ?body ?done ?stop
  case own =>
    rintro pre x a' s W W' row ⟨D7, va, vn, vc, h1, h2, h3, h4, h5⟩ hg hr
    refine ⟨D7, va, vn, vc, h1, h2, (hg.block _ (Array.getElem?_eq_some_iff.1 h3).1 (fun e => ?_)).trans h3, h4, pxH_own w1.heap.size _ _ pre x () W W' row h5 hg hr⟩
    obtain ⟨_, o, ho, hc⟩ := hr _ e.symm
    rw [h3] at ho
    cases ho
    cases hc
  case assign =>
    rintro l pre x W K hI hx hK
    obtain ⟨va, vc, hbv⟩ := ownB_slice hx.2.1
    obtain ⟨vn, hvn⟩ : ∃ vn, x.2.bs.length = vn := ⟨_, rfl⟩
    rw [hvn] at hbv
    have HPX := Lib.hid hx
    have HI1 := Lib.hid hI
    have HBV := Lib.hid hbv
    have HK := Lib.hid hK
    clear hx hI hvn hK
    unfold encP Pk.val
    dsimp only
    rw [hbv]
    clear hbv
    simp only [List.zip_toArray, List.zip_cons_cons, List.zip_nil_right, List.foldl_toArray, List.foldl_cons, List.foldl_nil, List.setIfInBounds_toArray, List.set_cons_succ, List.set_cons_zero]
    gi_wp2
    have bb : Below W.heap.size W (W.alloc (.cells #[.string x.2.frm, .string x.2.to, .slice va vn vc] 35)) := (Below.refl _ _).alloc (Nat.le_refl _) _
    exact HK.out _ _ (keepsFrom_below bb) (KpS.of_below bb fun k hk => Nat.lt_of_lt_of_le (HSS.out k hk) HI1.out.1.size) ⟨HI1.out.1.trans (bb.mono HI1.out.1.size), HI1.out.2⟩
      ⟨_, va, vn, vc, rfl, HBV.out, new_at rfl, HI1.out.1.size, HPX.out.1, row_stays HPX.out.2.1 fun b hb => bb.block b (HPX.out.2.1.lt b hb).2, HPX.out.2.2⟩
  case body =>
    rintro l pre x a' W hI ⟨D7, va, vn, vc, rfl, hbv, h7, hD7, hx⟩ hlt
    have hz1 := HB1'.out.size
    have hk := List.getElem?_eq_getElem hlt
    have hxa : x.2.abs = N.hist[pre.length].abs := by
      have := congrArg Prod.snd hx.1
      simp [List.getD, hk] at this
      exact this
    have hbl : x.2.bs.length ≤ 65536 := by
      have h := HOK.out _ (List.getElem_mem hlt)
      simp only [validB, Bool.and_eq_true, decide_eq_true_eq] at h
      have e : x.2.bs = N.hist[pre.length].bs := congrArg APk.bs hxa
      rw [e]; exact h.2
    have m1 : W.heap[w.heap.size]? = some (.cells #[.string q.frm, .string q.to, .slice qa qn qc] 35 (0, 0)) := (hI.1.block _ (by omega)).trans M1.out
    have m2 : W.heap[w.heap.size + 1]? = some (.cells #[.bool false] 4 (0, 0)) := (hI.1.block _ (by omega)).trans M2.out
    obtain ⟨c0, c1, c2, -⟩ : W.cell? ⟨w.heap.size, 0, none⟩ = some (.string q.frm) ∧ W.cell? ⟨w.heap.size, 1, none⟩ = some (.string q.to) ∧ W.cell? ⟨w.heap.size, 2, none⟩ = some (.slice qa qn qc) ∧ True :=
      ⟨by rw [cell_of_row _ _ _ _ _ _ m1]; rfl, by rw [cell_of_row _ _ _ _ _ _ m1]; rfl, by rw [cell_of_row _ _ _ _ _ _ m1]; rfl, trivial⟩
    obtain ⟨d0, d1, d2, -⟩ : W.cell? ⟨D7, 0, none⟩ = some (.string x.2.frm) ∧ W.cell? ⟨D7, 1, none⟩ = some (.string x.2.to) ∧ W.cell? ⟨D7, 2, none⟩ = some (.slice va vn vc) ∧ True :=
      ⟨by rw [cell_of_row _ _ _ _ _ _ h7]; rfl, by rw [cell_of_row _ _ _ _ _ _ h7]; rfl, by rw [cell_of_row _ _ _ _ _ _ h7]; rfl, trivial⟩
    have call : Calls Try.prog 29 #[q.val, x.2.val] W fun e w' => e = .returned (.bool (sameQ q.abs x.2.abs)) ∧ Below W.heap.size W w' := rsame_any q x.2 W (HRr.out.below hI.1) (ownB_rd hx.2.1 (by omega))
    unfold Pk.val at call
    rw [hbv, HQ.out] at call
    have HC := Lib.hid call
    have M2' := Lib.hid m2
    have HII := Lib.hid hI
    clear call m1 m2 hI hx h7 hbv hk hxa hbl hlt
    gi_wp2_with fail
    refine ⟨trivial, (((callsIn_wide (n := 0)).2 HC.out).inRound l).mono ?_⟩
    rintro e W2 ⟨rfl, hb2⟩
    have m2 : W2.heap[w.heap.size + 1]? = some (.cells #[.bool false] 4 (0, 0)) := (hb2.block _ (Array.getElem?_eq_some_iff.1 M2'.out).1).trans M2'.out
    have g0 := frozen_blk m2 0
    have e0 : W2.cell? ⟨w.heap.size + 1, 0, none⟩ = some (.bool false) := by rw [cell_of_row _ _ _ _ _ _ m2]; rfl
    have HM2 := Lib.hid m2
    have HB2 := Lib.hid hb2
    clear m2 hb2
    cases hs : sameQ q.abs x.2.abs
    · have HSQ := Lib.hid hs
      clear hs
      gi_wp2_with fail
      refine ⟨keepsFrom_below HB2.out, KpS.of_below HB2.out fun k hk => Nat.lt_of_lt_of_le (HSS.out k hk) HII.out.1.size, HII.out.1.trans (HB2.out.mono HII.out.1.size), fun y hy => ?_⟩
      rcases List.mem_append.1 hy with hy | hy
      · exact HII.out.2 y hy
      · simp at hy; subst hy; exact HSQ.out
    · have HSQ := Lib.hid hs
      clear hs
      gi_wp2_with fail
      refine ⟨(keepsFrom_below HB2.out).trans ((KeepsOthers.setCell _ _ _).from _), rfl, ⟨x, by simp, HSQ.out⟩, set_at HM2.out, ?_⟩
      have z := HB1'.out.size
      exact ((HB1'.out.trans (HII.out.1.mono z)).trans (HB2.out.mono (Nat.le_trans z HII.out.1.size))).setCell (p := ⟨_, _, _⟩) (by show w.heap.size ≤ w.heap.size + 1; omega) _
  case done =>
    rintro D xs W hD hxs ⟨hb, hI⟩ hK
    have hany : (N.hist.map Pk.abs).any (sameQ q.abs) = false := by
      rw [List.any_eq_false]
      intro y hy
      obtain ⟨x, hx, rfl⟩ := upP_all (by simpa using hxs) hy
      rw [hI x hx]
      simp
    have HA := Lib.hid hany
    have HBB := Lib.hid hb
    have z := HB1'.out.size
    have m2 : W.heap[w.heap.size + 1]? = some (.cells #[.bool false] 4 (0, 0)) := (hb.block _ (by omega)).trans M2.out
    have g0 := frozen_blk m2 0
    have e0 : W.cell? ⟨w.heap.size + 1, 0, none⟩ = some (.bool false) := by rw [cell_of_row _ _ _ _ _ _ m2]; rfl
    have HM2 := Lib.hid m2
    clear hany hb hI hxs m2
    dsimp only
    go_wp2_with fail
    have hDn : D ≠ w.heap.size + 1 := by omega
    have hK2 : (W.setCell ⟨w.heap.size + 1, 0, none⟩ (.bool false)).heap[D]? = some (.deferred (some [])) := (set_other hDn).trans hK
    refine ⟨by simp, .inl ⟨_, _, rfl, run_takeDeferred hK2, ?_⟩⟩
    obtain ⟨W', hW'⟩ : ∃ W', W' = (W.setCell ⟨w.heap.size + 1, 0, none⟩ (.bool false)).putObj D (.deferred none) := ⟨_, rfl⟩
    rw [← hW']
    have n2 : W'.heap[w.heap.size + 1]? = some (.cells #[.bool false] 4 (0, 0)) := by rw [hW']; exact (World.putObj_heap_other (Ne.symm hDn)).trans (set_at HM2.out)
    have f0 : W'.cell? ⟨w.heap.size + 1, 0, none⟩ = some (.bool false) := by rw [cell_of_row _ _ _ _ _ _ n2]; rfl
    have bw : Below w.heap.size w W' := by
      rw [hW']
      exact (((HB1'.out.trans (HBB.out.mono z)).setCell (p := ⟨_, _, _⟩) (by show w.heap.size ≤ w.heap.size + 1; omega) _)).trans (belowK_b (w := w) (Nat.le_refl _) _ D _ _ (by omega) hK2 rfl rfl)
    exact ⟨.bool false, by simp [results, Try.results17, go_sem, f0], by rw [HA.out], bw⟩
  case stop =>
    rintro D c pre W hD ⟨k, hk, hpre⟩ ⟨rfl, ⟨x, hx, hsx⟩, m2, hb⟩ hK
    have hany : (N.hist.map Pk.abs).any (sameQ q.abs) = true := by
      rw [List.any_eq_true]
      exact ⟨x.2.abs, upP_any (by simpa using hk) hpre hx, hsx⟩
    have HA := Lib.hid hany
    have HM2 := Lib.hid m2
    have HBB := Lib.hid hb
    have hz := HB1'.out.size
    clear hany hx hsx hpre m2 hb
    refine wpIn_wide.2 ?_
    dsimp only
    go_wp2_with fail
    have hDn : D ≠ w.heap.size + 1 := by have := HZ.out; omega
    refine ⟨by simp, .inl ⟨_, _, rfl, run_takeDeferred hK, ?_⟩⟩
    obtain ⟨W', hW'⟩ : ∃ W', W' = W.putObj D (.deferred none) := ⟨_, rfl⟩
    rw [← hW']
    have n2 : W'.heap[w.heap.size + 1]? = some (.cells #[.bool true] 4 (0, 0)) := by rw [hW']; exact (World.putObj_heap_other (Ne.symm hDn)).trans HM2.out
    have f0 : W'.cell? ⟨w.heap.size + 1, 0, none⟩ = some (.bool true) := by rw [cell_of_row _ _ _ _ _ _ n2]; rfl
    have bw : Below w.heap.size w W' := by
      rw [hW']
      exact HBB.out.trans (belowK_b (w := w) (Nat.le_refl _) _ D _ _ (by omega) hK rfl rfl)
    exact ⟨.bool true, by simp [results, Try.results17, go_sem, f0], by rw [HA.out], bw⟩
end Go.Proofs.Ytiindnmelegkgaa

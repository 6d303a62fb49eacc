/- The reference's own. -/
import Derived.Test.YtiindnmelegkgaaR5
import Derived.OwnWalk
section
namespace Go.Proofs.Ytiindnmelegkgaa
open Go.RowKit
set_option linter.unusedSimpArgs false
set_option linter.unusedVariables false

/-- Five cells of a row are set, one element's. -/
theorem row_put {w : World} {g cap n : Nat} {done tail : List RFl} {x : RFl} {tl : List Value} (h : w.ownsRow 0 69 5 (.slice (some ⟨g, 0, none⟩) n cap) n (done.flatMap RFl.cells ++ tl)) (k : Nat) (hk : done.length = k) (hkn : k < n) (htl : tl.length = (n - k) * 5) (c0 c1 c2 c3 c4 : Value) :
    (((((w.setCell ⟨g, k * 5, none⟩ c0).setCell ⟨g, k * 5 + 1, none⟩ c1).setCell ⟨g, k * 5 + 2, none⟩ c2).setCell ⟨g, k * 5 + 3, none⟩ c3).setCell ⟨g, k * 5 + 4, none⟩ c4).ownsRow 0 69 5 (.slice (some ⟨g, 0, none⟩) n cap) n (done.flatMap RFl.cells ++ ([c0, c1, c2, c3, c4] ++ tl.drop 5)) := by
  have hl : (done.flatMap RFl.cells).length = k * 5 := by
    rw [← hk]
    clear h htl
    induction done generalizing k with
    | nil => rfl
    | cons y l ih => simp only [List.flatMap_cons, List.length_append, List.length_cons, Nat.succ_mul]; rw [ih l.length rfl (by simp at hk; omega)]; simp [RFl.cells]; omega
  have hb : k * 5 + 5 ≤ n * 5 := by omega
  obtain ⟨t0, t1, t2, t3, t4, tr, rfl⟩ : ∃ t0 t1 t2 t3 t4 tr, tl = t0 :: t1 :: t2 :: t3 :: t4 :: tr := by
    have h5 : 5 ≤ tl.length := by omega
    match tl, h5 with
    | t0 :: t1 :: t2 :: t3 :: t4 :: tr, _ => exact ⟨_, _, _, _, _, _, rfl⟩
  have h5 := row_set (row_set (row_set (row_set (row_set h (k * 5) c0 (by omega)) (k * 5 + 1) c1 (by omega)) (k * 5 + 2) c2 (by omega)) (k * 5 + 3) c3 (by omega)) (k * 5 + 4) c4 (by omega)
  have e : ∀ (j : Nat) (l : List Value) (u : Value), (done.flatMap RFl.cells ++ l).set (k * 5 + j) u = done.flatMap RFl.cells ++ l.set j u := fun j l u => by
    rw [List.set_append_right _ _ (by omega), hl, Nat.add_sub_cancel_left]
  have e0 : ∀ (l : List Value) (u : Value), (done.flatMap RFl.cells ++ l).set (k * 5) u = done.flatMap RFl.cells ++ l.set 0 u := fun l u => e 0 l u
  rw [e0, e, e, e, e] at h5
  simpa using h5

/-- Three more of its cells. -/
theorem row_put3 {w : World} {g cap n : Nat} {done : List RFl} {tl : List Value} {a0 a1 a2 a3 a4 : Value} (h : w.ownsRow 0 69 5 (.slice (some ⟨g, 0, none⟩) n cap) n (done.flatMap RFl.cells ++ ([a0, a1, a2, a3, a4] ++ tl))) (k : Nat) (hk : done.length = k) (hkn : k < n) (c0 c1 c2 : Value) :
    (((w.setCell ⟨g, k * 5, none⟩ c0).setCell ⟨g, k * 5 + 1, none⟩ c1).setCell ⟨g, k * 5 + 2, none⟩ c2).ownsRow 0 69 5 (.slice (some ⟨g, 0, none⟩) n cap) n (done.flatMap RFl.cells ++ ([c0, c1, c2, a3, a4] ++ tl)) := by
  have hl : (done.flatMap RFl.cells).length = k * 5 := by
    rw [← hk]
    clear h
    induction done generalizing k with
    | nil => rfl
    | cons y l ih => simp only [List.flatMap_cons, List.length_append, List.length_cons, Nat.succ_mul]; rw [ih l.length rfl (by simp at hk; omega)]; simp [RFl.cells]; omega
  have hb : k * 5 + 5 ≤ n * 5 := by omega
  have h5 := row_set (row_set (row_set h (k * 5) c0 (by omega)) (k * 5 + 1) c1 (by omega)) (k * 5 + 2) c2 (by omega)
  have e : ∀ (j : Nat) (l : List Value) (u : Value), (done.flatMap RFl.cells ++ l).set (k * 5 + j) u = done.flatMap RFl.cells ++ l.set j u := fun j l u => by
    rw [List.set_append_right _ _ (by omega), hl, Nat.add_sub_cancel_left]
  have e0 : ∀ (l : List Value) (u : Value), (done.flatMap RFl.cells ++ l).set (k * 5) u = done.flatMap RFl.cells ++ l.set 0 u := fun l u => e 0 l u
  rw [e0, e, e] at h5
  simpa using h5

/-- What has been copied after k rounds. -/
structure Copied (w wr : World) (N : RNet) (G n k : Nat) (done : List RFl) (tl : List Value) : Prop where
  b : Below w.heap.size w wr
  x0 : wr.heap[w.heap.size]? = some (.cells #[N.va, N.vh, N.ve, N.vb] 64 (0, 0))
  x1 : wr.heap[w.heap.size + 1]? = some (.cells #[.slice none 0 0, .slice none 0 0, .slice none 0 0, .slice none 0 0] 64 (0, 0))
  row : wr.ownsRow 0 69 5 (.slice (some ⟨G, 0, none⟩) n n) n (done.flatMap RFl.cells ++ tl)
  len : done.length = k
  tl : tl.length = (n - k) * 5
  abs : done.map RFl.abs = (N.all.take k).map RFl.abs
  own : ∀ x ∈ done, ownB wr x.p.bv x.p.bs
  far : ∀ x ∈ done, ∀ b, x.p.bv.ownBlock = some b → w.heap.size + 3 ≤ b
  apart : done.Pairwise (fun x y => ∀ b, x.p.bv.ownBlock = some b → y.p.bv.ownBlock ≠ some b)

/-- One more is copied. -/
theorem Copied.next {w wr : World} {N : RNet} {n k : Nat} {done : List RFl} {tl : List Value} (h : Copied w wr N (w.heap.size + 2) n k done tl) (hk : k < n) (x : RFl) (hx : N.all[k]? = some x) (W5 W6 : World) (bv : Value)
    (hW5 : W5 = ((((wr.setCell ⟨w.heap.size + 2, k * 5, none⟩ (.string x.p.frm)).setCell ⟨w.heap.size + 2, k * 5 + 1, none⟩ (.string x.p.to)).setCell ⟨w.heap.size + 2, k * 5 + 2, none⟩ x.p.bv).setCell ⟨w.heap.size + 2, k * 5 + 3, none⟩ (.int .i64 x.src)).setCell ⟨w.heap.size + 2, k * 5 + 4, none⟩ (.bool x.gone))
    (b6 : Below W5.heap.size W5 W6) (o6 : ownB W6 bv x.p.bs) (f6 : ∀ b, bv.ownBlock = some b → W5.heap.size ≤ b) :
    ∃ done' tl', Copied w (((W6.setCell ⟨w.heap.size + 2, k * 5, none⟩ (.string x.p.frm)).setCell ⟨w.heap.size + 2, k * 5 + 1, none⟩ (.string x.p.to)).setCell ⟨w.heap.size + 2, k * 5 + 2, none⟩ bv) N (w.heap.size + 2) n (k + 1) done' tl' := by
  have hG : w.heap.size + 2 < wr.heap.size := (h.row.lt _ rfl).2
  have r5 := row_put (tail := []) (x := x) h.row k h.len hk h.tl (.string x.p.frm) (.string x.p.to) x.p.bv (.int .i64 x.src) (.bool x.gone)
  rw [← hW5] at r5
  have z5 : W5.heap.size = wr.heap.size := by rw [hW5]; simp
  have k5 : ∀ b, b ≠ w.heap.size + 2 → W5.heap[b]? = wr.heap[b]? := fun b hb => by rw [hW5, set_other hb, set_other hb, set_other hb, set_other hb, set_other hb]
  have r6 : W6.ownsRow 0 69 5 (.slice (some ⟨w.heap.size + 2, 0, none⟩) n n) n _ := row_stays r5 fun b hb => b6.block b (by obtain rfl : w.heap.size + 2 = b := by simpa [Value.ownBlock] using hb
                                                                                                                            omega)
  have r7 := row_put3 r6 k h.len hk (.string x.p.frm) (.string x.p.to) bv
  obtain ⟨W7, hW7⟩ : ∃ W7, W7 = (((W6.setCell ⟨w.heap.size + 2, k * 5, none⟩ (.string x.p.frm)).setCell ⟨w.heap.size + 2, k * 5 + 1, none⟩ (.string x.p.to)).setCell ⟨w.heap.size + 2, k * 5 + 2, none⟩ bv) := ⟨_, rfl⟩
  rw [← hW7] at r7 ⊢
  have k7 : ∀ b, b ≠ w.heap.size + 2 → W7.heap[b]? = W6.heap[b]? := fun b hb => by rw [hW7, set_other hb, set_other hb, set_other hb]
  have s6 := b6.size
  have old : ∀ b, b < wr.heap.size → b ≠ w.heap.size + 2 → W7.heap[b]? = wr.heap[b]? := fun b hb hne => by rw [k7 b hne, b6.block b (by omega), k5 b hne]
  refine ⟨done ++ [{ x with p := { x.p with bv := bv } }], tl.drop 5, ?_⟩
  have hb := h.b.size
  have bW5 : Below w.heap.size wr W5 := by
    rw [hW5]
    exact (((((Below.refl _ _).setCell (p := ⟨_, _, _⟩) (by simp) _).setCell (p := ⟨_, _, _⟩) (by simp) _).setCell (p := ⟨_, _, _⟩) (by simp) _).setCell (p := ⟨_, _, _⟩) (by simp) _).setCell (p := ⟨_, _, _⟩) (by simp) _
  have bW7 : Below w.heap.size w W7 := by
    have b67 := h.b.trans (bW5.trans (b6.mono (by omega)))
    rw [hW7]
    exact ((b67.setCell (p := ⟨_, _, _⟩) (by simp) _).setCell (p := ⟨_, _, _⟩) (by simp) _).setCell (p := ⟨_, _, _⟩) (by simp) _
  clear bW5
  refine ⟨bW7, ?_, ?_, ?_, ?_, ?_, ?_, ?_, ?_, ?_⟩
  · rw [old _ (by omega) (by omega)]; exact h.x0
  · rw [old _ (by omega) (by omega)]; exact h.x1
  · simpa [RFl.cells] using r7
  · simp [h.len]
  · rw [List.length_drop, h.tl]; omega
  · rw [List.map_append, h.abs, List.take_add_one, hx]; simp [RFl.abs]
  · intro y hy
    rcases List.mem_append.1 hy with hy | hy
    · refine row_stays (h.own y hy) fun b hb => old b ((h.own y hy).lt b hb).2 (by have := h.far y hy b hb; omega)
    · simp at hy; subst hy
      refine row_stays o6 fun b hb => k7 b (by have := f6 b hb; omega)
  · intro y hy b hb
    rcases List.mem_append.1 hy with hy | hy
    · exact h.far y hy b hb
    · simp at hy; subst hy
      have := f6 b hb
      omega
  · rw [List.pairwise_append]
    refine ⟨h.apart, by simp, fun y hy z hz b hb hb' => ?_⟩
    simp at hz; subst hz
    have h1 := ((h.own y hy).lt b hb).2
    have h2 := f6 b hb'
    omega

/-- A network with a list of its own. -/
structure ROwned (w w' : World) (N N' : RNet) : Prop where
  ok : ROk w' N'
  abs : N'.all.map RFl.abs = N.all.map RFl.abs
  hist : N'.hist = N.hist
  evs : N'.evs = N.evs
  blk : N'.blk = N.blk
  vh : N'.vh = N.vh
  vb : N'.vb = N.vb
  fa : ∀ b, N'.va.ownBlock = some b → w.heap.size ≤ b
  fe : ∀ b, N'.ve.ownBlock = some b → w.heap.size ≤ b
  fb : ∀ x ∈ N'.all, ∀ b, x.p.bv.ownBlock = some b → w.heap.size ≤ b
  apart : N'.all.Pairwise (fun x y => ∀ b, x.p.bv.ownBlock = some b → y.p.bv.ownBlock ≠ some b)
  below : Below w.heap.size w w'

/-- The run of append([]T(nil), s...). -/
theorem app_row (w : World) (t e : TypeId) (z : Value) (size bytes : Nat) (ht : Try.prog.underlying t = some (.slice e)) (hinfo : (Try.prog.info? e).map (fun i => (i.zero, i.size, i.bytes)) = some (some z, size, bytes)) (hzs : z.cells.size = size) (hsz : 0 < size) (hby : bytes ≤ 100)
    (v : Value) (n : Nat) (xs : List Value) (hown : w.ownsRow 0 e size v n xs) (h1 : ∀ u ∈ xs, u.oneCell' = true) (hn : n ≤ 1073741824) :
    ∃ v' w', (Builtin.append_ #[t, t] t #[.slice none 0 0, v]).run Try.prog w = .ok v' w' ∧ w'.ownsRow 0 e size v' n xs ∧ (∀ b, v'.ownBlock = some b → w.heap.size ≤ b) ∧ Below w.heap.size w w' := by
  obtain ⟨i0, hi, hz0, hz1, hz2⟩ := info_parts hinfo
  rcases hown.2 with ⟨rfl, rfl⟩ | ⟨g, cap, cur, rfl, _⟩
  · exact ⟨.slice none 0 0, w, run_append_of_nil w 0 t t e i0 size ht hi _ 0 [] (World.ownsRow_nil _ _ _ _) 0, hown, by simp [Value.ownBlock], Below.refl _ _⟩
  · obtain ⟨v', w', hrun, hown', hgrow, -⟩ := run_append_own_wide (P := Try.prog) w w.heap.size t t e i0 z size bytes ht hi hz0 hz1 hz2 hzs hsz (.slice none 0 0) 0 [] (World.ownsRow_nil _ _ _ _) ⟨g, 0, none⟩ n cap xs hown.1
      (fun j u hu => hown.cells (g := g) rfl j u hu) h1 (by simp [maxLen]; omega) (by
        have h2 : (0 + n + (0 + n) / 4 + 192) * bytes ≤ (0 + n + (0 + n) / 4 + 192) * 100 := Nat.mul_le_mul_left _ hby
        omega) (Nat.le_refl _)
    exact ⟨v', w', hrun, by simpa using row_mono hown', fun b hb => (hown'.lt b hb).1, (Below.refl _ w).grown hgrow (Nat.le_refl _) (by intro k hk; simp [Value.ownBlock] at hk)⟩
end Go.Proofs.Ytiindnmelegkgaa
end
/- The reference's own: the walk. -/
section
namespace Go.Proofs.Ytiindnmelegkgaa
open Go.RowKit
set_option linter.unusedSimpArgs false
set_option linter.unusedVariables false

theorem app_ev (w : World) (v : Value) (evs : List Ev) (hown : w.ownsRow 0 59 3 v evs.length (evs.flatMap Ev.cells)) (hn : evs.length ≤ 1000000) :
    ∃ v' w', (Builtin.append_ #[26, 26] 26 #[.slice none 0 0, v]).run Try.prog w = .ok v' w' ∧ w'.ownsRow 0 59 3 v' evs.length (evs.flatMap Ev.cells) ∧ (∀ b, v'.ownBlock = some b → w.heap.size ≤ b) ∧ Below w.heap.size w w' :=
  app_row w 26 59 _ 3 24 u26 info59 rfl (by decide) (by decide) v evs.length _ hown (fun u hu => by
        obtain ⟨x, _, hu⟩ := List.mem_flatMap.1 hu
        exact ev_one x u hu) (by omega)
theorem ob_eq {g n c b : Nat} (h : (Value.slice (some ⟨g, 0, none⟩) n c).ownBlock = some b) : b = g := by simpa [Value.ownBlock] using h.symm

theorem copied_end {w wr : World} {N : RNet} {n : Nat} {done : List RFl} {tl : List Value} (h : Copied w wr N (w.heap.size + 2) n n done tl) (hn : N.all.length = n) (R : ROk w N) (W9 W10 : World) (ve : Value)
    (b9 : Below (w.heap.size + 2) W9 W10)
    (h9 : W9 = wr.setCell ⟨w.heap.size, 0, none⟩ (.slice (some ⟨w.heap.size + 2, 0, none⟩) n n))
    (b10 : Below W9.heap.size W9 W10) (e10 : W10.ownsRow 0 59 3 ve N.evs.length (N.evs.flatMap Ev.cells)) (f10 : ∀ b, ve.ownBlock = some b → W9.heap.size ≤ b) (W11 : World)
    (h11 : W11 = ((((W10.setCell ⟨w.heap.size, 2, none⟩ ve).setCell ⟨w.heap.size + 1, 0, none⟩ (.slice (some ⟨w.heap.size + 2, 0, none⟩) n n)).setCell ⟨w.heap.size + 1, 1, none⟩ N.vh).setCell ⟨w.heap.size + 1, 2, none⟩ ve).setCell ⟨w.heap.size + 1, 3, none⟩ N.vb) :
    ROwned w W11 N { N with all := done, va := .slice (some ⟨w.heap.size + 2, 0, none⟩) n n, ve := ve } := by
  have hG : w.heap.size + 2 < wr.heap.size := (h.row.lt _ rfl).2
  have z9 : W9.heap.size = wr.heap.size := by rw [h9]; simp
  have s10 := b10.size
  have k9 : ∀ b, b ≠ w.heap.size → W9.heap[b]? = wr.heap[b]? := fun b hb => by rw [h9]; exact set_other hb
  have k11 : ∀ b, b ≠ w.heap.size → b ≠ w.heap.size + 1 → W11.heap[b]? = W10.heap[b]? := fun b hb hb' => by rw [h11, set_other hb', set_other hb', set_other hb', set_other hb', set_other hb]
  have old : ∀ b, b < wr.heap.size → b ≠ w.heap.size → b ≠ w.heap.size + 1 → W11.heap[b]? = wr.heap[b]? := fun b hb h1 h2 => by rw [k11 b h1 h2, b10.block b (by omega), k9 b h1]
  have hb := h.b.size
  have old0 : ∀ b, b < w.heap.size → W11.heap[b]? = w.heap[b]? := fun b hb' => by rw [old b (by omega) (by omega) (by omega), h.b.block b hb']
  have tl0 : tl = [] := List.length_eq_zero_iff.1 (by rw [h.tl]; omega)
  have hdl : done.length = n := h.len
  have habs : done.map RFl.abs = N.all.map RFl.abs := by rw [h.abs, List.take_of_length_le (by omega)]
  have bW : Below w.heap.size w W11 := by
    have b1 : Below w.heap.size w W9 := by rw [h9]; exact h.b.setCell (p := ⟨_, _, _⟩) (by simp) _
    have b2 := b1.trans (b10.mono (by omega))
    rw [h11]
    exact ((((b2.setCell (p := ⟨_, _, _⟩) (by simp) _).setCell (p := ⟨_, _, _⟩) (by simp) _).setCell (p := ⟨_, _, _⟩) (by simp) _).setCell (p := ⟨_, _, _⟩) (by simp) _).setCell (p := ⟨_, _, _⟩) (by simp) _
  constructor
  · constructor
    · show W11.ownsRow 0 69 5 (.slice (some ⟨w.heap.size + 2, 0, none⟩) n n) done.length (done.flatMap RFl.cells)
      have := h.row
      rw [tl0, List.append_nil] at this
      rw [hdl]
      exact row_stays this fun b hb => by
        obtain rfl : w.heap.size + 2 = b := by simpa [Value.ownBlock] using hb
        exact old _ hG (by omega) (by omega)
    · exact row_stays R.h fun b hb => old0 b (R.h.lt b hb).2
    · show W11.ownsRow 0 59 3 ve N.evs.length (N.evs.flatMap Ev.cells)
      exact row_stays e10 fun b hb => k11 b (by have := f10 b hb; omega) (by have := f10 b hb; omega)
    · exact row_stays R.b fun b hb => old0 b (R.b.lt b hb).2
    · exact fun x hx => row_stays (h.own x hx) fun b hb => old b ((h.own x hx).lt b hb).2 (by have := h.far x hx b hb; omega) (by have := h.far x hx b hb; omega)
    · exact fun x hx => row_stays (R.hb x hx) fun b hb => old0 b ((R.hb x hx).lt b hb).2
    · intro x hx
      have hx' : x.abs ∈ N.all.map RFl.abs := habs ▸ List.mem_map_of_mem hx
      obtain ⟨y, hy, e⟩ := List.mem_map.1 hx'
      have := R.aok y hy
      simp only [RFl.abs, RA.mk.injEq] at e
      simp only [validB] at this ⊢
      rw [← e.1, ← e.2.1, ← e.2.2.1]
      exact this
    · exact R.hok
  · exact habs
  · rfl
  · rfl
  · rfl
  · rfl
  · rfl
  · intro b hb
    obtain rfl : w.heap.size + 2 = b := by simpa [Value.ownBlock] using hb
    omega
  · intro b hb
    have := f10 b hb
    omega
  · intro x hx b hb
    have := h.far x hx b hb
    omega
  · exact h.apart
  · exact bW

set_option maxHeartbeats 2000000 in
set_option maxRecDepth 100000 in
theorem rowned_any (N : RNet) (w : World) (R : ROk w N) (S : RSmall N) :
    Calls Try.prog 68 #[N.val] w fun e w' => ∃ N', e = .returned N'.val ∧ ROwned w w' N N' := by
  obtain ⟨W0, hW0⟩ : ∃ W0, W0 = (w.alloc (.cells #[N.va, N.vh, N.ve, N.vb] 64)).alloc (.cells #[.slice none 0 0, .slice none 0 0, .slice none 0 0, .slice none 0 0] 64) := ⟨_, rfl⟩
  have b0 : Below w.heap.size w W0 := by rw [hW0]; exact ((Below.refl _ _).alloc (Nat.le_refl _) _).alloc (by simp) _
  have z0 : W0.heap.size = w.heap.size + 2 := by rw [hW0]; simp
  have x0 : W0.heap[w.heap.size]? = some (.cells #[N.va, N.vh, N.ve, N.vb] 64 (0, 0)) := by rw [hW0, old_at (by simp)]; exact new_at rfl
  have x1 : W0.heap[w.heap.size + 1]? = some (.cells #[.slice none 0 0, .slice none 0 0, .slice none 0 0, .slice none 0 0] 64 (0, 0)) := by rw [hW0]; exact new_at (by simp)
  obtain ⟨i0, hi, hz0, hz1, hz2⟩ := info_parts info69
  obtain ⟨n, hn⟩ : ∃ n, N.all.length = n := ⟨_, rfl⟩
  have hnb := S.all
  rw [hn] at hnb
  obtain ⟨W1, run1, r1, g1⟩ := run_make_full (P := Try.prog) W0 0 61 69 i0 _ 5 u61 hi hz0 hz1 .i64 .i64 n (by rw [hz2]; omega) (by simp [maxLen]; omega) (Nat.zero_le _)
  have b1 : Below W0.heap.size W0 W1 := ⟨g1.os, g1.tape, g1.output, g1.size, fun b hb => g1.block b hb (by simp)⟩
  have C0 : Copied w W1 N (w.heap.size + 2) n 0 [] (madeCells (Value.cells (.agg #[.string { data := #[] }, .string { data := #[] }, .slice none 0 0, .int .i64 0, .bool false])) (n * 5)).toList :=
    ⟨b0.trans (b1.mono (by omega)), (b1.block _ (by omega)).trans x0, (b1.block _ (by omega)).trans x1, by rw [z0] at r1; simpa using r1, rfl, by simp [size_madeCells], by simp, by simp, by simp, List.Pairwise.nil⟩
  have HC0 := Lib.hid C0
  have HR := Lib.hid R
  have HS := Lib.hid S
  have HN := Lib.hid hn
  obtain ⟨aa, ac, hva⟩ := row_slice R.a
  rw [hn] at hva
  obtain ⟨-, ⟨a2, n2, k2, hvh⟩, ⟨a3, n3, k3, hve⟩, ⟨a4, n4, k4, hvb⟩⟩ := R.forms
  rw [z0] at run1
  rw [hW0] at run1
  have HA := Lib.hid hva
  have HH := Lib.hid hvh
  have HE := Lib.hid hve
  have HV := Lib.hid hvb
  have HM := Lib.hid run1
  clear run1 r1 b1 g1 C0 x0 x1 z0 b0 hW0 hz2 hz1 hz0 hi R S hn
  unfold RNet.val
  rw [hva, hvh, hve, hvb]
  rw [hva, hvh, hve, hvb] at HM
  clear hva hvh hve hvb
  have hmk := HM.out
  go_enter Try.func68, Try.ntmps68
  go_wp2
  clear hmk
  go_loopw [4] (fun i wr => ∃ (k : Nat) (done : List RFl) (tl : List Value), k ≤ n ∧ i = .int .i64 k ∧ Copied w wr N (w.heap.size + 2) n k done tl) (fun i _ => n - (intOf i).toNat)
  case atStart => exact ⟨0, [], _, Nat.zero_le _, rfl, HC0.out⟩
  case round =>
    obtain ⟨k, done, tl, hk, rfl, hC⟩ := hrel
    by_cases hlt : k < n
    · obtain ⟨x, hx⟩ : ∃ x, N.all[k]? = some x := ⟨N.all[k]'(by rw [HN.out]; omega), List.getElem?_eq_getElem _⟩
      have hxm := List.mem_of_getElem? hx
      have R1 := HR.out.below hC.b
      obtain ⟨ga, hga⟩ : ∃ g, aa = some ⟨g, 0, none⟩ := by
        obtain ⟨g, c, h⟩ := slice_box HR.out.a (by rw [HN.out]; omega)
        rw [HA.out] at h
        cases h
        exact ⟨g, rfl⟩
      have ra := R1.a
      rw [HA.out, HN.out, hga] at ra
      obtain ⟨ba, bc, hbv⟩ := ownB_slice (HR.out.ab x hxm)
      obtain ⟨l, hl⟩ : ∃ l, x.p.bs.length = l := ⟨_, rfl⟩
      rw [hl] at hbv
      have m0 := el_at (f := RFl.cells) (fun _ => rfl) ra hx HN.out 0 (by decide)
      have m1 := el_at (f := RFl.cells) (fun _ => rfl) ra hx HN.out 1 (by decide)
      have m2 := el_at (f := RFl.cells) (fun _ => rfl) ra hx HN.out 2 (by decide)
      have m3 := el_at (f := RFl.cells) (fun _ => rfl) ra hx HN.out 3 (by decide)
      have m4 := el_at (f := RFl.cells) (fun _ => rfl) ra hx HN.out 4 (by decide)
      simp [RFl.cells, hbv] at m0 m1 m2 m3 m4
      have hgl : ga < w.heap.size := (HR.out.a.lt ga (by rw [HA.out, hga]; rfl)).2
      have hne : ¬ ga = w.heap.size + 2 := by omega
      have hne' : ¬ w.heap.size + 2 = ga := by omega
      have cx : ∀ j, j < n * 5 → ∃ u, wr.cell? ⟨w.heap.size + 2, j, none⟩ = some u := fun j hj => by
        rw [hC.row.cellAt j hj]
        have : j < (done.flatMap RFl.cells ++ tl).length := by rw [hC.row.1]; exact hj
        exact ⟨_, List.getElem?_eq_getElem this⟩
      obtain ⟨u0, q0⟩ := cx (k * 5) (by omega)
      obtain ⟨u1, q1⟩ := cx (k * 5 + 1) (by omega)
      obtain ⟨u2, q2⟩ := cx (k * 5 + 2) (by omega)
      obtain ⟨u3, q3⟩ := cx (k * 5 + 3) (by omega)
      obtain ⟨u4, q4⟩ := cx (k * 5 + 4) (by omega)
      have fz : ∀ j, wr.frozen? ⟨w.heap.size + 2, j, none⟩ = false := fun j => hC.row.frozenAt j
      have c0 : wr.cell? ⟨w.heap.size, 0, none⟩ = some (.slice aa n ac) := by rw [cell_of_row _ _ _ _ _ _ hC.x0, HA.out]; rfl
      subst hga
      obtain ⟨W5, hW5⟩ : ∃ W5, W5 = ((((wr.setCell ⟨w.heap.size + 2, k * 5, none⟩ (.string x.p.frm)).setCell ⟨w.heap.size + 2, k * 5 + 1, none⟩ (.string x.p.to)).setCell ⟨w.heap.size + 2, k * 5 + 2, none⟩ x.p.bv).setCell ⟨w.heap.size + 2, k * 5 + 3, none⟩ (.int .i64 x.src)).setCell ⟨w.heap.size + 2, k * 5 + 4, none⟩ (.bool x.gone) := ⟨_, rfl⟩
      have k5 : ∀ b, b ≠ w.heap.size + 2 → W5.heap[b]? = wr.heap[b]? := fun b hb => by rw [hW5, set_other hb, set_other hb, set_other hb, set_other hb, set_other hb]
      have hz := hC.b.size
      have rb : rdB W5 x.p.bv x.p.bs := ownB_rd (row_stays (R1.ab x hxm) fun b hb => k5 b (by have := ((HR.out.ab x hxm).lt b hb).2; omega)) (rd_len (R1.aok x hxm))
      have call := rown_any x.p W5 rb
      have hG : w.heap.size + 2 < wr.heap.size := (hC.row.lt _ rfl).2
      have z5 : W5.heap.size = wr.heap.size := by rw [hW5]; simp
      have r5 := row_put (tail := []) (x := x) hC.row k hC.len hlt hC.tl (.string x.p.frm) (.string x.p.to) x.p.bv (.int .i64 x.src) (.bool x.gone)
      rw [← hW5] at r5
      have HNX := Lib.hid (fun W6 bv => hC.next hlt x hx W5 W6 bv hW5)
      unfold Pk.val at call
      rw [hbv] at call hW5
      have HCALL := Lib.hid call
      have HW5 := Lib.hid hW5
      have HR5 := Lib.hid r5
      have HL := Lib.hid hl
      clear call hW5 r5 hl rb k5 hz R1 ra cx hxm hx hbv hC
      go_wp2_with fail
      rw [← HW5.out]
      refine HCALL.out.mono ?_
      rintro e W6 ⟨bv, rfl, o6, f6, b6⟩
      obtain ⟨done', tl', hC'⟩ := HNX.out W6 bv b6 o6 f6
      have r6 := row_stays (w' := W6) HR5.out fun b hb => b6.block b (by rw [ob_eq hb]; omega)
      have cx6 : ∀ j, j < n * 5 → ∃ u, W6.cell? ⟨w.heap.size + 2, j, none⟩ = some u := fun j hj => by
        rw [r6.cellAt j hj]
        exact ⟨_, List.getElem?_eq_getElem (by rw [r6.1]; exact hj)⟩
      clear q0 q1 q2 q3 q4 m0 m1 m2 m3 m4 c0 fz
      obtain ⟨u0, q0⟩ := cx6 (k * 5) (by omega)
      obtain ⟨u1, q1⟩ := cx6 (k * 5 + 1) (by omega)
      obtain ⟨u2, q2⟩ := cx6 (k * 5 + 2) (by omega)
      have fz : ∀ j, W6.frozen? ⟨w.heap.size + 2, j, none⟩ = false := fun j => r6.frozenAt j
      obtain ⟨va', vc', hbv'⟩ := ownB_slice o6
      rw [hbv'] at hC' ⊢
      generalize x.p.bs.length = l6 at *
      have HCN := Lib.hid hC'
      clear cx6 r6 hC' o6 f6 b6 hbv' HNX HCALL
      dsimp only
      go_wp2_with fail
      go_roundw
      case rel => exact ⟨k + 1, done', tl', by omega, by simp, HCN.out⟩
      case measure => simp [intOf]; omega
    · obtain rfl : k = n := by omega
      have hb := hC.b.size
      have hG : w.heap.size + 2 < wr.heap.size := (hC.row.lt _ rfl).2
      obtain ⟨W9, h9⟩ : ∃ W9, W9 = wr.setCell ⟨w.heap.size, 0, none⟩ (.slice (some ⟨w.heap.size + 2, 0, none⟩) k k) := ⟨_, rfl⟩
      have k9 : ∀ b, b ≠ w.heap.size → W9.heap[b]? = wr.heap[b]? := fun b hb => by rw [h9]; exact set_other hb
      have z9 : W9.heap.size = wr.heap.size := by rw [h9]; simp
      have e9 : W9.ownsRow 0 59 3 N.ve N.evs.length (N.evs.flatMap Ev.cells) := row_stays HR.out.e fun b hb => by
        have := (HR.out.e.lt b hb).2
        rw [k9 b (by omega), hC.b.block b this]
      obtain ⟨ve', W10, run10, e10, f10, b10⟩ := app_ev W9 N.ve N.evs e9 HS.out.evs
      have x9 : W9.heap[w.heap.size]? = some (.cells #[.slice (some ⟨w.heap.size + 2, 0, none⟩) k k, N.vh, N.ve, N.vb] 64 (0, 0)) := by rw [h9]; exact set_at hC.x0
      have y9 : W9.heap[w.heap.size + 1]? = some (.cells #[.slice none 0 0, .slice none 0 0, .slice none 0 0, .slice none 0 0] 64 (0, 0)) := (k9 _ (by omega)).trans hC.x1
      have x10 := (b10.block _ (by omega)).trans x9
      have y10 := (b10.block _ (by omega)).trans y9
      have END : Hid (∀ W11, W11 = ((((W10.setCell ⟨w.heap.size, 2, none⟩ ve').setCell ⟨w.heap.size + 1, 0, none⟩ (.slice (some ⟨w.heap.size + 2, 0, none⟩) k k)).setCell ⟨w.heap.size + 1, 1, none⟩ N.vh).setCell ⟨w.heap.size + 1, 2, none⟩ ve').setCell ⟨w.heap.size + 1, 3, none⟩ N.vb → ROwned w W11 N { N with all := done, va := .slice (some ⟨w.heap.size + 2, 0, none⟩) k k, ve := ve' }) :=
        Lib.hid fun W11 h11 => copied_end hC HN.out HR.out W9 W10 ve' (b10.mono (by omega)) h9 b10 e10 f10 W11 h11
      obtain ⟨ea, ec, hve'⟩ := row_slice e10
      rw [hve'] at END run10
      rw [HH.out, HE.out, HV.out] at x9 x10
      rw [HH.out, HV.out] at END
      rw [HE.out] at run10
      rw [h9] at run10
      have xr : wr.cell? ⟨w.heap.size, 0, none⟩ = some N.va := by rw [cell_of_row _ _ _ _ _ _ hC.x0]; rfl
      have xr2 : wr.cell? ⟨w.heap.size, 2, none⟩ = some (.slice a3 n3 k3) := by rw [cell_of_row _ _ _ _ _ _ hC.x0]; exact congrArg some HE.out
      have fr := frozen_blk hC.x0 0
      have c0 := cell_of_row W10 _ 0 _ _ _ x10
      have c1 := cell_of_row W10 _ 1 _ _ _ x10
      have c2 := cell_of_row W10 _ 2 _ _ _ x10
      have c3 := cell_of_row W10 _ 3 _ _ _ x10
      have d0 := cell_of_row W10 _ 0 _ _ _ y10
      have d1 := cell_of_row W10 _ 1 _ _ _ y10
      have d2 := cell_of_row W10 _ 2 _ _ _ y10
      have d3 := cell_of_row W10 _ 3 _ _ _ y10
      have f2 := frozen_blk x10 2
      have g0 := frozen_blk y10 0
      have g1 := frozen_blk y10 1
      have g2 := frozen_blk y10 2
      have g3 := frozen_blk y10 3
      simp at c0 c1 c2 c3 d0 d1 d2 d3
      rw [HA.out] at xr
      generalize N.evs.length = en at *
      have HRN := Lib.hid run10
      clear run10 hve' e10 f10 b10 x9 y9 x10 y10 e9 k9 z9 h9 hC
      go_wp2_with (at_builtin; refine wpList_append_run rfl _ _ 26 rfl _ _ rfl rfl HRN.out ?_)
      exact bodyPost_ret (v := .agg #[.slice (some ⟨w.heap.size + 2, 0, none⟩) k k, .slice a2 n2 k2, .slice ea en ec, .slice a4 n4 k4]) (by simp [results, Try.results68, go_sem, d0, d1, d2, d3]) rfl ⟨_, by first | rfl | (unfold RNet.val; rw [HH.out, HV.out]), END.out _ rfl⟩
end Go.Proofs.Ytiindnmelegkgaa
end
/- The reference's launched. -/
section
namespace Go.Proofs.Ytiindnmelegkgaa
open Go.RowKit
set_option linter.unusedSimpArgs false
set_option linter.unusedVariables false

/-- A reference's network in plain words. -/
structure RAbs where
  all : List RA
  hist : List APk
  evs : List Ev
  blk : List (ByteArray × ByteArray)
def RNet.abs (N : RNet) : RAbs := ⟨N.all.map RFl.abs, N.hist.map Pk.abs, N.evs, N.blk⟩
/-- A network that was made out of another. -/
structure RNext (w w' : World) (N N' : RNet) : Prop where
  ok : ROk w' N'
  below : Below w.heap.size w w'
  blocks : ∀ b, RB N' b → RB N b ∨ w.heap.size ≤ b

theorem rfl_one (x : RFl) (h : x.p.bv.oneCell' = true) : ∀ u ∈ x.cells, u.oneCell' = true := by
  intro u hu
  simp [RFl.cells] at hu
  rcases hu with rfl | rfl | rfl | rfl | rfl <;> first | rfl | exact h

/-- Four cells of a box are set. -/
theorem box4 {w : World} {b : Nat} {t : TypeId} {a0 a1 a2 a3 : Value} (h : w.heap[b]? = some (.cells #[a0, a1, a2, a3] t (0, 0))) (c0 c1 c2 c3 : Value) :
    ((((w.setCell ⟨b, 0, none⟩ c0).setCell ⟨b, 1, none⟩ c1).setCell ⟨b, 2, none⟩ c2).setCell ⟨b, 3, none⟩ c3).heap[b]? = some (.cells #[c0, c1, c2, c3] t (0, 0)) :=
  set_at (set_at (set_at (set_at h)))
theorem box4_other {w : World} {b b' : Nat} (c0 c1 c2 c3 : Value) (h : b' ≠ b) :
    ((((w.setCell ⟨b, 0, none⟩ c0).setCell ⟨b, 1, none⟩ c1).setCell ⟨b, 2, none⟩ c2).setCell ⟨b, 3, none⟩ c3).heap[b']? = w.heap[b']? := by
  rw [set_other h, set_other h, set_other h, set_other h]
theorem box4_size {w : World} {b : Nat} (c0 c1 c2 c3 : Value) : ((((w.setCell ⟨b, 0, none⟩ c0).setCell ⟨b, 1, none⟩ c1).setCell ⟨b, 2, none⟩ c2).setCell ⟨b, 3, none⟩ c3).heap.size = w.heap.size := by simp
theorem box4_below {w : World} {n b : Nat} (h : n ≤ b) (c0 c1 c2 c3 : Value) : Below n w ((((w.setCell ⟨b, 0, none⟩ c0).setCell ⟨b, 1, none⟩ c1).setCell ⟨b, 2, none⟩ c2).setCell ⟨b, 3, none⟩ c3) :=
  ((((Below.refl _ _).setCell (p := ⟨_, _, _⟩) h _).setCell (p := ⟨_, _, _⟩) h _).setCell (p := ⟨_, _, _⟩) h _).setCell (p := ⟨_, _, _⟩) h _

/-- The worlds of launched, from the second on. -/
structure Lau (B : Nat) (N1 : RNet) (p : Pk) (src : Int) (W2 : World) (bv : Value) (g c : Nat) (W3 W4 W5 : World) : Prop where
  own : ownB W3 bv p.bs
  far : ∀ b, bv.ownBlock = some b → W2.heap.size ≤ b
  b3 : Below W2.heap.size W2 W3
  run : (Builtin.append_ #[61, 61] 61 #[N1.va, .slice (some ⟨W3.heap.size, 0, none⟩) 1 1]).run Try.prog (W3.alloc (.cells (RFl.cells ⟨{ p with bv := bv }, src, false⟩).toArray 69)) = .ok (.slice (some ⟨g, 0, none⟩) (N1.all.length + 1) c) W4
  w5 : W5 = W4.setCell ⟨B, 0, none⟩ (.slice (some ⟨g, 0, none⟩) (N1.all.length + 1) c)
  ok : ROk W5 { N1 with all := N1.all ++ [⟨{ p with bv := bv }, src, false⟩], va := .slice (some ⟨g, 0, none⟩) (N1.all.length + 1) c }
  gr : (W3.alloc (.cells (RFl.cells ⟨{ p with bv := bv }, src, false⟩).toArray 69)).grownBy W4 N1.va.ownBlock
  g1 : N1.va.ownBlock = some g ∨ W3.heap.size ≤ g
  z5 : W5.heap.size = W4.heap.size

theorem lau_worlds {w W0 W1 : World} {N N1 : RNet} (O : ROwned W0 W1 N N1) (hw : w.heap.size + 3 = W0.heap.size) (S : RSmall N) (p : Pk) (src : Int) (W2 : World) (h2 : ∀ b, b ≠ w.heap.size → W2.heap[b]? = W1.heap[b]?) (z2 : W2.heap.size = W1.heap.size) (hv : validB p = true)
    (vb : ∀ b, N.vb.ownBlock = some b → b < W0.heap.size ∧ b ≠ w.heap.size) (vh : ∀ b, N.vh.ownBlock = some b → b < W0.heap.size ∧ b ≠ w.heap.size) (vq : ∀ q ∈ N.hist, ∀ b, q.bv.ownBlock = some b → b < W0.heap.size ∧ b ≠ w.heap.size) :
    ∀ bv W3, ownB W3 bv p.bs → (∀ b, bv.ownBlock = some b → W2.heap.size ≤ b) → Below W2.heap.size W2 W3 → ∃ g c W4 W5, Lau w.heap.size N1 p src W2 bv g c W3 W4 W5 := by
  intro bv W3 o3 f3 b3
  have hl : N1.all.length = N.all.length := by have := congrArg List.length O.abs; simpa using this
  have z1 := O.below.size
  have z3 := b3.size
  have ne1 : ∀ b, RB N1 b → b ≠ w.heap.size := fun b hb => by
    rcases hb with h | h | h | h | ⟨x, hx, h⟩ | ⟨x, hx, h⟩
    · have := O.fa b h; omega
    · rw [O.vh] at h; exact (vh b h).2
    · have := O.fe b h; omega
    · rw [O.vb] at h; exact (vb b h).2
    · have := O.fb x hx b h; omega
    · rw [O.hist] at hx; exact (vq x hx b h).2
  have R3 : ROk W3 N1 := O.ok.stays fun b hb => by
    have := O.ok.lt hb
    rw [b3.block b (by omega), h2 b (ne1 b hb)]
  obtain ⟨g, c, W4, run4, f4, gr4, l4, s4⟩ := append_one W3 61 69 _ 5 72 u61 info69 rfl (by decide) (by decide) N1.va N1.all.length _ R3.a (RFl.cells ⟨{ p with bv := bv }, src, false⟩) rfl (rfl_one _ (ownB_one o3)) (by have := S.all; omega)
  obtain ⟨W5, hW5⟩ : ∃ W5, W5 = W4.setCell ⟨w.heap.size, 0, none⟩ (.slice (some ⟨g, 0, none⟩) (N1.all.length + 1) c) := ⟨_, rfl⟩
  have z4 := gr4.size
  have z3' : (W3.alloc (.cells (RFl.cells ⟨{ p with bv := bv }, src, false⟩).toArray 69)).heap.size = W3.heap.size + 1 := by simp
  have gB : g ≠ w.heap.size := by
    rcases l4 with h | h
    · exact ne1 g (.inl h)
    · omega
  have keep : ∀ b, b < W3.heap.size → b ≠ w.heap.size → N1.va.ownBlock ≠ some b → W5.heap[b]? = W3.heap[b]? := fun b hb h1 h2 => by
    rw [hW5, set_other h1, gr4.block b (by omega) (fun e => h2 e.symm), old_at hb]
  have ne : ∀ {v : Value} {e : TypeId} {size n : Nat} {xs : List Value}, W3.ownsRow 0 e size v n xs → e ≠ 69 → (∀ b, v.ownBlock = some b → b ≠ w.heap.size) → W5.ownsRow 0 e size v n xs := fun h hne h' => row_stays h fun b hb => keep b (h.lt b hb).2 (h' b hb) (rows_ne h R3.a hne hb)
  refine ⟨g, c, W4, W5, ⟨o3, f3, b3, run4, hW5, ?_, gr4, ?_, by rw [hW5]; simp⟩⟩
  · constructor
    · have : W5.ownsRow 0 69 5 (.slice (some ⟨g, 0, none⟩) (N1.all.length + 1) c) (N1.all.length + 1) (N1.all.flatMap RFl.cells ++ RFl.cells ⟨{ p with bv := bv }, src, false⟩) := row_stays f4 fun b hb => by
        rw [ob_eq hb, hW5]; exact set_other gB
      simpa using this
    · exact ne R3.h (by decide) fun b hb => ne1 b (.inr (.inl hb))
    · exact ne R3.e (by decide) fun b hb => ne1 b (.inr (.inr (.inl hb)))
    · exact ne R3.b (by decide) fun b hb => ne1 b (.inr (.inr (.inr (.inl hb))))
    · intro x hx
      rcases List.mem_append.1 hx with hx | hx
      · exact ne (R3.ab x hx) (by decide) fun b hb => ne1 b (.inr (.inr (.inr (.inr (.inl ⟨x, hx, hb⟩)))))
      · simp at hx; subst hx
        exact ne o3 (by decide) fun b hb => by have := f3 b hb; omega
    · exact fun x hx => ne (R3.hb x hx) (by decide) fun b hb => ne1 b (.inr (.inr (.inr (.inr (.inr ⟨x, hx, hb⟩)))))
    · intro x hx
      rcases List.mem_append.1 hx with hx | hx
      · exact O.ok.aok x hx
      · simp at hx; subst hx; exact hv
    · exact O.ok.hok
  · rcases l4 with h | h
    · exact .inl h
    · right; omega
end Go.Proofs.Ytiindnmelegkgaa
end
/- The reference's launched: the walk. -/
section
namespace Go.Proofs.Ytiindnmelegkgaa
open Go.RowKit
set_option linter.unusedSimpArgs false
set_option linter.unusedVariables false

/-- A packet has been put in flight. -/
def RLaunched (w w' : World) (N : RNet) (p : Pk) (src kind frm : Int) (N' : RNet) : Prop :=
  RNext w w' N N' ∧ N'.abs = ⟨N.abs.all ++ [⟨p.frm, p.to, p.bs, src, false⟩], N.abs.hist, N.evs ++ [⟨kind, (N.all.length : Nat), frm⟩], N.blk⟩

theorem lau_end {w W0 W1 W2 W3 W4 W5 W6 W7 : World} {N N1 N3 : RNet} {p : Pk} {src kind frm : Int} {bv : Value} {g c : Nat} (R : ROk w N) (b0 : Below w.heap.size w W0) (z0 : w.heap.size + 3 = W0.heap.size) (O : ROwned W0 W1 N N1)
    (z2 : W2.heap.size = W1.heap.size) (b2 : Below w.heap.size W1 W2) (L : Lau w.heap.size N1 p src W2 bv g c W3 W4 W5)
    (T : RNoted W5 W6 { N1 with all := N1.all ++ [⟨{ p with bv := bv }, src, false⟩], va := .slice (some ⟨g, 0, none⟩) (N1.all.length + 1) c } ⟨kind, (N.all.length : Nat), frm⟩ N3)
    (h7 : W7 = ((((W6.setCell ⟨w.heap.size + 2, 0, none⟩ N3.va).setCell ⟨w.heap.size + 2, 1, none⟩ N3.vh).setCell ⟨w.heap.size + 2, 2, none⟩ N3.ve).setCell ⟨w.heap.size + 2, 3, none⟩ N3.vb)) : RLaunched w W7 N p src kind frm N3 := by
  obtain ⟨R3, e1, e2, e3, e4, e5, e6, e7, e8, g3⟩ := T
  dsimp only at *
  have z1 := O.below.size
  have z3 := L.b3.size
  have z4 := L.gr.size
  have z3' : (W3.alloc (.cells (RFl.cells ⟨{ p with bv := bv }, src, false⟩).toArray 69)).heap.size = W3.heap.size + 1 := by simp
  have z5 := L.z5
  have z6 := g3.size
  have b1 : Below w.heap.size w W1 := b0.trans (O.below.mono (by omega))
  have b3 : Below w.heap.size w W3 := (b1.trans b2).trans (L.b3.mono (by omega))
  have b4 : Below w.heap.size w W4 := (b3.alloc (by omega) _).grown L.gr (by omega) (fun k e => by have := O.fa k e; omega)
  have b5 : Below w.heap.size w W5 := by rw [L.w5]; exact b4.setCell (p := ⟨_, _, _⟩) (Nat.le_refl _) _
  have b6 : Below w.heap.size w W6 := b5.grown g3 (by omega) (fun k e => by have := O.fe k e; omega)
  have b7 : Below w.heap.size w W7 := by rw [h7]; exact b6.trans (box4_below (by omega) _ _ _ _)
  have blocks : ∀ b, RB N3 b → (RB N b ∨ w.heap.size ≤ b) ∧ b ≠ w.heap.size + 2 := fun b hb => by
    have old : RB N b → b ≠ w.heap.size + 2 := fun h => by have := R.lt h; omega
    rcases hb with h | h | h | h | ⟨x, hx, h⟩ | ⟨x, hx, h⟩
    · rw [e5] at h
      have := ob_eq h
      rcases L.g1 with h' | h'
      · have := O.fa g h'; exact ⟨.inr (by omega), by omega⟩
      · exact ⟨.inr (by omega), by omega⟩
    · rw [e6, O.vh] at h
      have h' : RB N b := .inr (.inl h)
      exact ⟨.inl h', old h'⟩
    · rcases e8 b h with h' | h'
      · have := O.fe b h'; exact ⟨.inr (by omega), by omega⟩
      · exact ⟨.inr (by omega), by omega⟩
    · rw [e7, O.vb] at h
      have h' : RB N b := .inr (.inr (.inr (.inl h)))
      exact ⟨.inl h', old h'⟩
    · rw [e1] at hx
      rcases List.mem_append.1 hx with hx | hx
      · have := O.fb x hx b h; exact ⟨.inr (by omega), by omega⟩
      · simp at hx; subst hx
        have := L.far b h; exact ⟨.inr (by omega), by omega⟩
    · rw [e2, O.hist] at hx
      have h' : RB N b := .inr (.inr (.inr (.inr (.inr ⟨x, hx, h⟩))))
      exact ⟨.inl h', old h'⟩
  refine ⟨⟨R3.stays fun b hb => by rw [h7, box4_other _ _ _ _ (blocks b hb).2], b7, fun b hb => (blocks b hb).1⟩, ?_⟩
  unfold RNet.abs
  simp only [e1, e2, e3, e4, List.map_append, List.map_cons, List.map_nil, O.abs, O.hist, O.evs, O.blk, RFl.abs]

set_option maxHeartbeats 2000000 in
set_option maxRecDepth 100000 in
theorem rlaunched_any (N : RNet) (w : World) (R : ROk w N) (S : RSmall N) (p : Pk) (hr : rdB w p.bv p.bs) (hv : validB p = true) (hlt : N.all.length < 1000000) (kind src frm : Int) :
    Calls Try.prog 73 #[N.val, .int .i64 kind, p.val, .int .i64 src, .int .i64 frm] w fun e w' => ∃ N', e = .returned (.tuple #[N'.val, .int .i64 (N.all.length : Nat)]) ∧ RLaunched w w' N p src kind frm N' := by
  obtain ⟨W0, hW0⟩ : ∃ W0, W0 = ((w.alloc (.cells #[N.va, N.vh, N.ve, N.vb] 64)).alloc (.cells #[.string p.frm, .string p.to, p.bv] 35)).alloc (.cells #[.slice none 0 0, .slice none 0 0, .slice none 0 0, .slice none 0 0] 64) := ⟨_, rfl⟩
  have b0 : Below w.heap.size w W0 := by rw [hW0]; exact (((Below.refl _ _).alloc (Nat.le_refl _) _).alloc (by simp) _).alloc (by simp; omega) _
  have z0 : w.heap.size + 3 = W0.heap.size := by rw [hW0]; simp
  have x0 : W0.heap[w.heap.size]? = some (.cells #[N.va, N.vh, N.ve, N.vb] 64 (0, 0)) := by rw [hW0, old_at (by simp; omega), old_at (by simp)]; exact new_at rfl
  have x1 : W0.heap[w.heap.size + 1]? = some (.cells #[.string p.frm, .string p.to, p.bv] 35 (0, 0)) := by rw [hW0, old_at (by simp)]; exact new_at (by simp)
  have x2 : W0.heap[w.heap.size + 2]? = some (.cells #[.slice none 0 0, .slice none 0 0, .slice none 0 0, .slice none 0 0] 64 (0, 0)) := by rw [hW0]; exact new_at (by simp)
  have HO := Lib.hid (rowned_any N W0 (R.below b0) S)
  have HR := Lib.hid R
  have HS := Lib.hid S
  have HB0 := Lib.hid b0
  have HP := Lib.hid hr
  have hfm := R.forms
  obtain ⟨pa, pn, pc, hpv, -⟩ := hr.lt
  have HPV := Lib.hid hpv
  have HW0 := Lib.hid hW0
  have HZ0 := Lib.hid z0
  clear R S b0 hr hW0 z0
  unfold RNet.val Pk.val
  rw [hpv] at x1 HW0 ⊢
  clear hpv
  obtain ⟨all0, hist0, evs0, blk0, va0, vh0, ve0, vb0⟩ := N
  dsimp only at *
  obtain ⟨⟨a1, n1, k1, rfl⟩, ⟨a2, n2, k2, rfl⟩, ⟨a3, n3, k3, rfl⟩, ⟨a4, n4, k4, rfl⟩⟩ := hfm
  have c0 := cell_of_row W0 _ 0 _ _ _ x0
  have c1 := cell_of_row W0 _ 1 _ _ _ x0
  have c2 := cell_of_row W0 _ 2 _ _ _ x0
  have c3 := cell_of_row W0 _ 3 _ _ _ x0
  simp at c0 c1 c2 c3
  go_enter Try.func73, Try.ntmps73
  go_wp2_with fail
  rw [← HW0.out]
  refine HO.out.mono ?_
  rintro e W1 ⟨N1, rfl, O⟩
  have hfm1 := O.ok.forms
  have hl1 : N1.all.length = all0.length := by have := congrArg List.length O.abs; simpa using this
  have z1 := O.below.size
  have hz0 := HZ0.out
  have y0 := (O.below.block w.heap.size (by omega)).trans x0
  have y1 := (O.below.block (w.heap.size + 1) (by omega)).trans x1
  have y2 := (O.below.block (w.heap.size + 2) (by omega)).trans x2
  clear c0 c1 c2 c3 x0 x1 x2
  obtain ⟨W2, hW2⟩ : ∃ W2, W2 = ((((W1.setCell ⟨w.heap.size, 0, none⟩ N1.va).setCell ⟨w.heap.size, 1, none⟩ N1.vh).setCell ⟨w.heap.size, 2, none⟩ N1.ve).setCell ⟨w.heap.size, 3, none⟩ N1.vb) := ⟨_, rfl⟩
  have kk2 : ∀ b, b ≠ w.heap.size → W2.heap[b]? = W1.heap[b]? := fun b hb => by rw [hW2, box4_other _ _ _ _ hb]
  have z2 : W2.heap.size = W1.heap.size := by rw [hW2, box4_size]
  have t0 : W2.heap[w.heap.size]? = some (.cells #[N1.va, N1.vh, N1.ve, N1.vb] 64 (0, 0)) := by rw [hW2]; exact box4 y0 _ _ _ _
  have t1 := (kk2 (w.heap.size + 1) (by omega)).trans y1
  have t2 := (kk2 (w.heap.size + 2) (by omega)).trans y2
  have b2 : Below w.heap.size W1 W2 := by rw [hW2]; exact box4_below (Nat.le_refl _) _ _ _ _
  have b2' : Below w.heap.size w W2 := (HB0.out.trans (O.below.mono (by omega))).trans b2
  have r2 : rdB W2.drew p.bv p.bs := rdB_stays HP.out b2'.size fun hne b hb => b2'.block b (rdB_lt HP.out hne b hb)
  obtain ⟨bv, W3, o3, f3, b3, call3⟩ := rown_run p W2.drew r2
  obtain ⟨ba, bc, hbv⟩ := ownB_slice o3
  have RN := HR.out
  obtain ⟨g, c, W4, W5, L⟩ := lau_worlds O hz0 HS.out p src W2.drew kk2 z2 hv
    (fun b hb => by have := RN.lt (b := b) (.inr (.inr (.inr (.inl hb)))); omega) (fun b hb => by have := RN.lt (b := b) (.inr (.inl hb)); omega) (fun q hq b hb => by have := RN.lt (b := b) (.inr (.inr (.inr (.inr (.inr ⟨q, hq, hb⟩))))); omega) bv W3 o3 f3 b3
  have z3 := b3.size
  have z4 := L.gr.size
  have z3' : (W3.alloc (.cells (RFl.cells ⟨{ p with bv := bv }, src, false⟩).toArray 69)).heap.size = W3.heap.size + 1 := by simp
  have hz2 : W2.drew.heap.size = W2.heap.size := rfl
  have s3 : ∀ b, b < W2.heap.size → W3.heap[b]? = W2.heap[b]? := fun b hb => b3.block b hb
  have nva : ∀ b, N1.va.ownBlock = some b → w.heap.size + 3 ≤ b := fun b hb => by have := O.fa b hb; omega
  have s4 : ∀ b, b < w.heap.size + 3 → W4.heap[b]? = W2.heap[b]? := fun b hb => by
    rw [L.gr.block b (by omega) (fun e => by have := nva b e.symm; omega), old_at (by omega), s3 b (by omega)]
  have s5 : ∀ b, b < w.heap.size + 3 → b ≠ w.heap.size → W5.heap[b]? = W2.heap[b]? := fun b hb hne => by rw [L.w5, set_other hne, s4 b hb]
  have p3 := (s3 w.heap.size (by omega)).trans t0
  have p3a : (W3.alloc (.cells (RFl.cells ⟨{ p with bv := bv }, src, false⟩).toArray 69)).heap[w.heap.size]? = _ := (old_at (by omega)).trans p3
  have p4 := (s4 w.heap.size (by omega)).trans t0
  have p5 : W5.heap[w.heap.size]? = some (.cells #[.slice (some ⟨g, 0, none⟩) (N1.all.length + 1) c, N1.vh, N1.ve, N1.vb] 64 (0, 0)) := by rw [L.w5]; exact set_at p4
  have p52 := (s5 (w.heap.size + 2) (by omega) (by omega)).trans t2
  have nve : ∀ b, N1.ve.ownBlock = some b → w.heap.size + 3 ≤ b := fun b hb => by have := O.fe b hb; omega
  have HNT := Lib.hid (rnoted_any { N1 with all := N1.all ++ [⟨{ p with bv := bv }, src, false⟩], va := .slice (some ⟨g, 0, none⟩) (N1.all.length + 1) c } W5 L.ok
    ⟨by simp [hl1]; omega, by show N1.hist.length ≤ _; rw [O.hist]; exact HS.out.hist, by show N1.evs.length ≤ _; rw [O.evs]; exact HS.out.evs, by show N1.blk.length ≤ _; rw [O.blk]; exact HS.out.blk⟩ kind (all0.length : Nat) frm)
  have HEND := Lib.hid (fun W6 N3 T W7 h7 => lau_end (W7 := W7) RN HB0.out hz0 O (W2 := W2.drew) z2 b2.drew L (W6 := W6) (N3 := N3) (kind := kind) (frm := frm) T h7)
  have HC3 := Lib.hid call3
  have HRUN := Lib.hid L.run
  have HW5 := Lib.hid L.w5
  have HW2 := Lib.hid hW2
  have HBV := Lib.hid hbv
  have HL1 := Lib.hid hl1
  unfold Pk.val at HC3
  rw [HPV.out, hbv] at HC3
  unfold RNet.val at HNT
  dsimp only at HNT
  have g5 := frozen_blk p5 0
  have j0 := cell_of_row W1 _ 0 _ _ _ y0
  have j1 := cell_of_row W1 _ 1 _ _ _ y0
  have j2 := cell_of_row W1 _ 2 _ _ _ y0
  have j3 := cell_of_row W1 _ 3 _ _ _ y0
  have fj : ∀ i, W1.frozen? ⟨w.heap.size, i, none⟩ = false := frozen_blk y0
  simp at j0 j1 j2 j3
  have hlb : N1.all.length < 1000000 := by omega
  clear L call3 RN O r2 b2' b2 z2 t2 y0 y1 y2 s3 s4 s5 nva hz2 z3' z4 z3 o3 f3 b3 kk2 hW2 hbv z1 hl1
  obtain ⟨all1, hist1, evs1, blk1, va1, vh1, ve1, vb1⟩ := N1
  dsimp only at *
  obtain ⟨⟨d1, m1, l1, rfl⟩, ⟨d2, m2, l2, rfl⟩, ⟨d3, m3, l3, rfl⟩, ⟨d4, m4, l4, rfl⟩⟩ := hfm1
  obtain ⟨ln, hln⟩ : ∃ ln, all1.length = ln := ⟨_, rfl⟩
  rw [hln] at p5 HNT hlb HRUN HW5
  have HLN := Lib.hid hln
  generalize p.bs.length = pl at *
  clear hln
  unfold RNet.val
  dsimp only
  go_wp2_with fail
  rw [← HW2.out]
  clear j0 j1 j2 j3 fj
  obtain ⟨W3a, hW3a⟩ : ∃ W3a, W3a = W3.alloc (.cells (RFl.cells ⟨{ p with bv := bv }, src, false⟩).toArray 69) := ⟨_, rfl⟩
  rw [← hW3a] at p3a HRUN
  have HW3a := Lib.hid hW3a
  clear hW3a
  refine wp_region_chain (wsq [W2.drew, W3, W3a, W4, W5]) [3, 6, 7, 9] [(1, 3), (2, 1)] (by kernel_rfl) (by kernel_rfl) (by kernel_rfl) (by kernel_rfl) wsq_0 ?_
  (refine chain_pure rfl rfl ?_; apply Exists.intro; refine ⟨fun ww => ?_, ?_⟩; (focus (unfold calmAt calmUpon; go_simp; rfl)); (simp only [Act.put, List.setIfInBounds_toArray, List.set_cons_succ, List.set_cons_zero]))
  refine chain_load rfl rfl 3 (by simp) ?_
  apply Exists.intro
  refine ⟨fun k ww hk hww => ?_, ?_⟩
  focus
    have m : ww.cell? ⟨w.heap.size, 0, none⟩ = some (.slice d1 m1 l1) := by
      rcases wsq_lt3 hk hww with rfl | rfl | rfl
      · rw [cell_of_row _ _ _ _ _ _ (show W2.drew.heap[w.heap.size]? = _ from t0)]; rfl
      · rw [cell_of_row _ _ _ _ _ _ p3]; rfl
      · rw [cell_of_row _ _ _ _ _ _ p3a]; rfl
    unfold calmAt calmUpon
    go_simp
    try rfl
  (simp only [Act.put, List.setIfInBounds_toArray, List.set_cons_succ, List.set_cons_zero])
  refine chain_load rfl rfl 1 (by simp) ?_
  apply Exists.intro
  refine ⟨fun k ww hk hww => ?_, ?_⟩
  focus
    have e := wsq_lt1 hk hww
    subst e
    have m0 : W2.drew.cell? ⟨w.heap.size + 1, 0, none⟩ = some (.string p.frm) := by rw [cell_of_row _ _ _ _ _ _ (show W2.drew.heap[w.heap.size + 1]? = _ from t1)]; rfl
    have m1 : W2.drew.cell? ⟨w.heap.size + 1, 1, none⟩ = some (.string p.to) := by rw [cell_of_row _ _ _ _ _ _ (show W2.drew.heap[w.heap.size + 1]? = _ from t1)]; rfl
    have m2 : W2.drew.cell? ⟨w.heap.size + 1, 2, none⟩ = some (.slice pa pn pc) := by rw [cell_of_row _ _ _ _ _ _ (show W2.drew.heap[w.heap.size + 1]? = _ from t1)]; rfl
    unfold calmAt calmUpon
    go_simp
    rfl
  (simp only [Act.put, List.setIfInBounds_toArray, List.set_cons_succ, List.set_cons_zero])
  refine chain_write (by kernel_rfl) rfl 0 rfl (by rfl) ?_
  apply Exists.intro
  refine ⟨fun ww hww => ?_, ?_⟩
  focus
    have e := wsq_lt1 (Nat.zero_lt_one) hww
    subst e
    unfold calmAt calmUpon
    go_simp
    refine HC3.out.mono ?_
    rintro e w1 ⟨rfl, rfl⟩
    exact ⟨rfl, rfl⟩
  (simp only [Act.put, List.setIfInBounds_toArray, List.set_cons_succ, List.set_cons_zero])
  iterate 2 (refine chain_pure rfl rfl ?_; apply Exists.intro; refine ⟨fun ww => ?_, ?_⟩; (focus (unfold calmAt calmUpon; go_simp; rfl)); (simp only [Act.put, List.setIfInBounds_toArray, List.set_cons_succ, List.set_cons_zero]))
  refine chain_write (by kernel_rfl) rfl 1 rfl (by rfl) ?_
  apply Exists.intro
  refine ⟨fun ww hww => ?_, ?_⟩
  focus
    have e : W3 = ww := by simpa [wsq] using hww
    subst e
    unfold calmAt calmUpon
    go_simp
    refine ⟨rfl, ?_⟩
    rw [HW3a.out, HBV.out]
    rfl
  (simp only [Act.put, List.setIfInBounds_toArray, List.set_cons_succ, List.set_cons_zero])
  refine chain_write (by kernel_rfl) rfl 2 rfl (by rfl) ?_
  apply Exists.intro
  refine ⟨fun ww hww => ?_, ?_⟩
  focus
    have e : W3a = ww := by simpa [wsq] using hww
    subst e
    exact calmAt_append (.tmp 16) (.tmp 21) 61 rfl _ _ rfl rfl HRUN.out rfl
  (simp only [Act.put, List.setIfInBounds_toArray, List.set_cons_succ, List.set_cons_zero])
  (refine chain_pure rfl rfl ?_; apply Exists.intro; refine ⟨fun ww => ?_, ?_⟩; (focus (unfold calmAt calmUpon; go_simp; rfl)); (simp only [Act.put, List.setIfInBounds_toArray, List.set_cons_succ, List.set_cons_zero]))
  refine chain_write (by kernel_rfl) rfl 3 rfl (by rfl) ?_
  apply Exists.intro
  refine ⟨fun ww hww => ?_, ?_⟩
  focus
    have e : W4 = ww := by simpa [wsq] using hww
    subst e
    have m0 : W4.cell? ⟨w.heap.size, 0, none⟩ = some (.slice d1 m1 l1) := by rw [cell_of_row _ _ _ _ _ _ p4]; rfl
    have g0 := frozen_blk p4 0
    unfold calmAt calmUpon
    go_simp
    refine ⟨rfl, ?_⟩
    rw [HW5.out]
    rfl
  (simp only [Act.put, List.setIfInBounds_toArray, List.set_cons_succ, List.set_cons_zero])
  refine calm_nil ?_
  intro ww hww
  have e : W5 = ww := by simpa [wsq] using hww
  subst e
  clear hww p3 p3a p4 t0 t1
  have j0 := cell_of_row W5 _ 0 _ _ _ p5
  have j1 := cell_of_row W5 _ 1 _ _ _ p5
  have j2 := cell_of_row W5 _ 2 _ _ _ p5
  have j3 := cell_of_row W5 _ 3 _ _ _ p5
  simp at j0 j1 j2 j3
  go_wp2_with fail
  have hln : ln = all0.length := by rw [← HLN.out]; exact HL1.out
  subst hln
  refine HNT.out.mono ?_
  rintro e W6 ⟨N3, rfl, T⟩
  have HE := Lib.hid (HEND.out W6 N3 (by simpa only [HLN.out] using T))
  have hz6 : w.heap.size + 2 < W5.heap.size := (Array.getElem?_eq_some_iff.1 p52).1
  have q0 := (T.2.2.2.2.2.2.2.2.2.block (w.heap.size + 2) hz6 (fun e => by have := nve _ e.symm; omega)).trans p52
  have hfm3 := T.1.forms
  clear T HEND j0 j1 j2 j3 p5 p52 g5
  obtain ⟨all3, hist3, evs3, blk3, va3, vh3, ve3, vb3⟩ := N3
  dsimp only at *
  obtain ⟨⟨q1, q2, q3, rfl⟩, ⟨q4, q5, q6, rfl⟩, ⟨q7, q8, q9, rfl⟩, ⟨q10, q11, q12, rfl⟩⟩ := hfm3
  have j0 := cell_of_row W6 _ 0 _ _ _ q0
  have j1 := cell_of_row W6 _ 1 _ _ _ q0
  have j2 := cell_of_row W6 _ 2 _ _ _ q0
  have j3 := cell_of_row W6 _ 3 _ _ _ q0
  have fj : ∀ i, W6.frozen? ⟨w.heap.size + 2, i, none⟩ = false := frozen_blk q0
  simp at j0 j1 j2 j3
  go_wp2_with fail
  exact bodyPost_ret (v := .tuple #[.agg #[.slice q1 q2 q3, .slice q4 q5 q6, .slice q7 q8 q9, .slice q10 q11 q12], .int .i64 (all0.length : Nat)]) (by simp [results, Try.results73, go_sem, j0, j1, j2, j3]) rfl ⟨_, rfl, HE.out _ rfl⟩
end Go.Proofs.Ytiindnmelegkgaa
end

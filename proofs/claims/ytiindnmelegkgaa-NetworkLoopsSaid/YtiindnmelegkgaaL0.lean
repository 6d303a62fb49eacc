/- Loops that count and may be left: what is kept, as a list of boxes. -/
import Derived.Test.YtiindnmelegkgaaF4
namespace Go.Proofs.Ytiindnmelegkgaa
open Go.RowKit Go.Shelf
set_option linter.unusedSimpArgs false
set_option linter.unusedVariables false

/-- A box with a number. -/
def cnt (c : Nat) (n : Int) : Nat × Obj := (c, .cells #[.int .i64 n] 3 (0, 0))
/-- A mark. -/
def mrk (D : Nat) : Nat × Obj := (D, .deferred (some []))
/-- All that lay in E lies as it lay; and the boxes xs. -/
def KInv (E : World) (xs : List (Nat × Obj)) (z : Nat) (W : World) : Prop := Below E.heap.size E W ∧ (∀ x ∈ xs, W.heap[x.1]? = some x.2) ∧ z ≤ W.heap.size
section
variable {E W W' : World} {xs : List (Nat × Obj)} {z : Nat}
theorem KInv.below (h : KInv E xs z W) (hb : Below W.heap.size W W') : KInv E xs z W' :=
  ⟨h.1.trans (hb.mono h.1.size), fun x hx => (hb.block _ (Array.getElem?_eq_some_iff.1 (h.2.1 x hx)).1).trans (h.2.1 x hx), Nat.le_trans h.2.2 hb.size⟩
theorem KInv.own {α : Type} {B : Nat} (hE : E.heap.size ≤ B) (f : α → List (Nat × Obj)) (hx : ∀ pre, ∀ x ∈ f pre, x.1 < B) : OwnFrom B (fun (pre : α) W => KInv E (f pre) z W) := fun s A' B' row hs hg hr =>
  ⟨hs.1.grown hg hs.1.size (fun r e => by have := (hr r e).1; omega), fun x hx' => (hg.block _ (Array.getElem?_eq_some_iff.1 (hs.2.1 x hx')).1 (fun e => by have := (hr _ e.symm).1; have := hx s x hx'; omega)).trans (hs.2.1 x hx'), Nat.le_trans hs.2.2 hg.size⟩
theorem KInv.put {c : Nat} {n : Int} (h : KInv E (cnt c n :: xs) z W) (hc : E.heap.size ≤ c) (hn : ∀ x ∈ xs, x.1 ≠ c) (v : Int) : KInv E (cnt c v :: xs) z (W.setCell ⟨c, 0, none⟩ (.int .i64 v)) := by
  refine ⟨h.1.setCell (p := ⟨c, 0, none⟩) hc _, fun x hx => ?_, by rw [set_size]; exact h.2.2⟩
  rcases List.mem_cons.1 hx with rfl | hx
  · have := set_at (i := 0) (v := .int .i64 v) (h.2.1 _ (List.mem_cons_self ..))
    simpa [cnt] using this
  · exact (set_other (hn x hx)).trans (h.2.1 x (List.mem_cons_of_mem _ hx))
theorem KInv.sub {ys : List (Nat × Obj)} (h : KInv E xs z W) (hs : ∀ x ∈ ys, x ∈ xs) : KInv E ys z W := ⟨h.1, fun x hx => h.2.1 x (hs x hx), h.2.2⟩
theorem KInv.box (h : KInv E xs z W) (o : Obj) (D : Nat) (hD : D = W.heap.size) : KInv E ((D, o) :: xs) z (W.alloc o) := by
  subst hD
  have hb : Below W.heap.size W (W.alloc o) := (Below.refl _ _).alloc (Nat.le_refl _) o
  refine ⟨(h.below hb).1, fun x hx => ?_, (h.below hb).2.2⟩
  rcases List.mem_cons.1 hx with rfl | hx
  · exact new_at rfl
  · exact (h.below hb).2.1 x hx
theorem KInv.low {z' : Nat} (h : KInv E xs z W) (hz : z' ≤ W.heap.size) : KInv E xs z' W := ⟨h.1, h.2.1, hz⟩
theorem KInv.lt {x : Nat × Obj} (h : KInv E xs z W) (hx : x ∈ xs) : x.1 < W.heap.size := (Array.getElem?_eq_some_iff.1 (h.2.1 x hx)).1
theorem KInv.fz {c : Nat} {n : Int} (h : KInv E xs z W) (hx : cnt c n ∈ xs) : W.frozen? ⟨c, 0, none⟩ = false := by
  have e : W.heap[c]? = some (.cells #[.int .i64 n] 3 (0, 0)) := h.2.1 _ hx
  exact frozen_blk e 0
theorem KInv.cell {c : Nat} {n : Int} (h : KInv E xs z W) (hx : cnt c n ∈ xs) : W.cell? ⟨c, 0, none⟩ = some (.int .i64 n) := by
  have e : W.heap[c]? = some (.cells #[.int .i64 n] 3 (0, 0)) := h.2.1 _ hx
  rw [cell_of_row _ _ _ _ _ _ e]; rfl
end

/-- What the loop's body owes, whichever way it is left. -/
theorem owe {α : Type} {E W W6 : World} {rest : List (Nat × Obj)} {z B c id : Nat} {Kp : World → World → Prop} {full : Prop} {pre : List α} {x : α} {a : Act} {e : Exit}
    (hI : KInv E (cnt c (pre.length : Int) :: rest) z W) (hb : Below W.heap.size W W6) (hc : E.heap.size ≤ c) (hB : c < B) (hn : ∀ y ∈ rest, y.1 ≠ c) (hKp : Kp W (W6.setCell ⟨c, 0, none⟩ (.int .i64 ((pre.length : Int) + 1)))) (he : e = .normal ∨ (e = .exit id ∧ ¬ full)) :
    ownPostG B Kp (fun (pre : List α) W => KInv E (cnt c (pre.length : Int) :: rest) z W) (fun c' pre W => (c' = .exit id ∧ ¬ full) ∧ KInv E (cnt c (pre.length : Int) :: rest) z W) (pre ++ [x]) W e a (W6.setCell ⟨c, 0, none⟩ (.int .i64 ((pre.length : Int) + 1))) := by
  have h1 : KeepsFrom B W (W6.setCell ⟨c, 0, none⟩ (.int .i64 ((pre.length : Int) + 1))) := ⟨by rw [set_size]; exact hb.size, fun k o hk hko hcell => by
    rw [set_other (show k ≠ c by omega), hb.block k (Array.getElem?_eq_some_iff.1 hko).1]; exact hko⟩
  have h2 : KInv E (cnt c ((pre ++ [x]).length : Int) :: rest) z (W6.setCell ⟨c, 0, none⟩ (.int .i64 ((pre.length : Int) + 1))) := by
    have := (hI.below hb).put hc hn ((pre.length : Int) + 1)
    simpa using this
  rcases he with rfl | ⟨rfl, hf⟩
  · exact ⟨h1, hKp, h2⟩
  · exact ⟨h1, ⟨rfl, hf⟩, h2⟩
theorem kps_put {S : Nat → Prop} {W W6 : World} {c : Nat} {v : Value} (hb : Below W.heap.size W W6) (hS : ∀ k, S k → k < W.heap.size ∧ k ≠ c) : KpS S W (W6.setCell ⟨c, 0, none⟩ v) :=
  ⟨by rw [set_size]; exact hb.size, fun k hk => by rw [set_other (hS k hk).2]; exact hb.block k (hS k hk).1⟩
theorem kpr_put {r : Option Nat} {W W6 : World} {c : Nat} {v : Value} (hb : Below W.heap.size W W6) (hS : ∀ k, r = some k → k < W.heap.size ∧ k ≠ c) : KpR r W (W6.setCell ⟨c, 0, none⟩ v) :=
  ⟨by rw [set_size]; exact hb.size, fun k hk => by rw [set_other (hS k hk).2]; exact hb.block k (hS k hk).1⟩

/-- A counting loop over packets that may be left. -/
theorem loop_px {assign body : Code} {g : Operand} {p1 p2 : Tmp} {Q : Exit → Act → World → Prop} {a : Act} {w : World} {gf : Nat} {lb : Array Value} {Px : List (Nat × Pk) → (Nat × Pk) → World → Prop} {S : Nat → Prop} {Sd Sp : List (Nat × Pk) → Prop} {M id : Nat} (a₁ : Nat × Pk → Nat → Act)
    (full : Prop) (E : World) (c : Nat) (rest : List (Nat × Obj))
    (hg : a.eval g = .func (.func gf) #[] lb) (eg : ∀ args w, (callFunc gf args).run Try.prog w = .ok (.enter gf args) w)
    (hseq : SeqPx Fence.wide 2 Try.prog gf lb encP Px (KpS S) Sd Sp M w) (hS : ∀ k, S k → k < w.heap.size) (hSd : ∀ ys, Sd ys → ys.length = M)
    (h0 : KInv E (cnt c 0 :: rest) w.heap.size w)
    (hPx : ∀ pre x, OwnFrom w.heap.size (fun (_ : Unit) W => Px pre x W)) (hPb : ∀ pre x W W', Px pre x W → Below W.heap.size W W' → Px pre x W') (hPo : ∀ pre x W, Px pre x W → ownB W x.2.bv x.2.bs)
    (hassign : ∀ (l : Nat) (x : Nat × Pk) (W : World) (K : Act → World → Prop), x.2.bv = .slice (slA x.2.bv) x.2.bs.length (slC x.2.bv) → (∀ D, W.heap.size = D → K (a₁ x D) (W.alloc (.cells #[.string x.2.frm, .string x.2.to, .slice (slA x.2.bv) x.2.bs.length (slC x.2.bv)] 35))) →
      assign.wpIn (Fence.wide.inRound l) (3 - 1 - 1) Try.prog (Exit.then K (fun _ _ _ => False)) { tmps := (#[p1, p2].zip #[.int .i64 (x.1 : Nat), .agg #[.string x.2.frm, .string x.2.to, .slice (slA x.2.bv) x.2.bs.length (slC x.2.bv)]]).foldl (fun t (p, v) => t.setIfInBounds p v) a.tmps, defers := [] } W)
    (hbody : ∀ (l : Nat) (pre : List (Nat × Pk)) (x : Nat × Pk) (D : Nat) (W : World), KInv E (cnt c (pre.length : Int) :: rest) w.heap.size W → Px pre x W → W.heap[D]? = some (.cells #[.string x.2.frm, .string x.2.to, x.2.bv] 35 (0, 0)) → w.heap.size ≤ D → pre.length < M → body.wpIn (Fence.wide.inRound l) (3 - 1 - 1) Try.prog (ownPostG w.heap.size (KpS S) (fun (pre : List (Nat × Pk)) W => KInv E (cnt c (pre.length : Int) :: rest) w.heap.size W) (fun c' pre W => (c' = .exit id ∧ ¬ full) ∧ KInv E (cnt c (pre.length : Int) :: rest) w.heap.size W) (pre ++ [x]) W) (a₁ x D) W)
    (hend : ∀ (D n : Nat) (W : World), w.heap.size ≤ D → (full → n = M) → KInv E (cnt c (n : Int) :: mrk D :: rest) w.heap.size W → Q .normal { a with defers := { target := .collected D, args := #[] } :: a.defers } W) :
    (Code.rangeFunc g #[p1, p2] assign body).wpIn Fence.wide 3 Try.prog (Exit.inBlock id Q) a w := by
  have hE := h0.1.size
  have hc : c < w.heap.size := h0.lt (List.mem_cons_self ..)
  have hr : ∀ y ∈ rest, y.1 < w.heap.size := fun y hy => h0.lt (List.mem_cons_of_mem _ hy)
  have hlt : ∀ (pre : List (Nat × Pk)), ∀ x ∈ cnt c (pre.length : Int) :: rest, x.1 < w.heap.size := fun pre x hx => by
    rcases List.mem_cons.1 hx with rfl | hx
    · exact hc
    · exact hr x hx
  have own : OwnFrom w.heap.size (fun (pre : List (Nat × Pk)) W => KInv E (cnt c (pre.length : Int) :: rest) w.heap.size W) := KInv.own hE _ hlt
  have mk : ∀ {n : Int} {D : Nat} {W : World}, KInv E (cnt c n :: rest) w.heap.size W → W.heap[D]? = some (.deferred (some [])) → KInv E (cnt c n :: mrk D :: rest) w.heap.size W := fun h hd => ⟨h.1, fun x hx => by
    simp only [List.mem_cons] at hx
    rcases hx with rfl | rfl | hx
    · exact h.2.1 _ (List.mem_cons_self ..)
    · exact hd
    · exact h.2.1 x (List.mem_cons_of_mem _ hx), h.2.2⟩
  refine range_px1 a₁ hg eg hseq hS (fun pre W => KInv E (cnt c (pre.length : Int) :: rest) w.heap.size W) (fun c' pre W => (c' = .exit id ∧ ¬ full) ∧ KInv E (cnt c (pre.length : Int) :: rest) w.heap.size W)
    own (fun c' s A' B' row hs hg hr => ⟨hs.1, own s A' B' row hs.2 hg hr⟩) h0 hPx ?_ hbody ?_ ?_
  · intro l pre x W K hI hx hK
    have bb : Below W.heap.size W (W.alloc (.cells #[.string x.2.frm, .string x.2.to, x.2.bv] 35)) := (Below.refl _ _).alloc (Nat.le_refl _) _
    have hbv := slice_parts (hPo _ _ _ hx)
    have h := hassign l x W K hbv (by
      rintro D rfl
      rw [← hbv]
      exact hK W.heap.size _ (keepsFrom_below bb) ⟨by simp, fun k e => old_at (Nat.lt_of_lt_of_le (hS k e) hI.2.2)⟩ (hI.below bb) (hPb _ _ _ _ hx bb) (new_at rfl) hI.2.2)
    rw [← hbv] at h
    exact h
  · intro D xs W hD hxs hI hd
    have h := hend D xs.length W hD (fun _ => hSd xs hxs) (mk hI hd)
    exact h
  · rintro D c' pre W hD hSp ⟨⟨rfl, hf⟩, hI⟩ hd
    have h := hend D pre.length W hD (fun h => absurd h hf) (mk hI hd)
    refine wpIn_exit ?_
    simpa [Exit.inBlock] using h
/-- .. over events. -/
theorem loop_ev {assign body : Code} {g : Operand} {p1 p2 : Tmp} {Q : Exit → Act → World → Prop} {a : Act} {w : World} {B : Nat} {v : Value} {evs : List Ev} {id : Nat} (a₁ : Nat × Ev → Nat → Act)
    (full : Prop) (E : World) (c : Nat) (rest : List (Nat × Obj))
    (hg : a.eval g = .func (.func 61) #[] #[.pointer (some ⟨B, 0, none⟩)]) (hreach : evs.length ≤ 1000000)
    (hBs : w.heap[B]? = some (.cells #[v] 26 (0, 0))) (hI0 : w.ownsRow 0 59 3 v evs.length (evs.flatMap Ev.cells))
    (h0 : KInv E (cnt c 0 :: rest) w.heap.size w)
    (hassign : ∀ (l : Nat) (x : Nat × Ev) (W : World) (K : Act → World → Prop), (∀ D, W.heap.size = D → K (a₁ x D) (W.alloc (.cells #[.int .i64 x.2.kind, .int .i64 x.2.id, .int .i64 x.2.frm] 59))) →
      assign.wpIn (Fence.wide.inRound l) (3 - 1 - 1) Try.prog (Exit.then K (fun _ _ _ => False)) { tmps := (#[p1, p2].zip (encE x)).foldl (fun t (p, v) => t.setIfInBounds p v) a.tmps, defers := [] } W)
    (hbody : ∀ (l : Nat) (pre : List (Nat × Ev)) (x : Nat × Ev) (D : Nat) (W : World), KInv E (cnt c (pre.length : Int) :: rest) w.heap.size W → W.heap[D]? = some (.cells #[.int .i64 x.2.kind, .int .i64 x.2.id, .int .i64 x.2.frm] 59 (0, 0)) → w.heap.size ≤ D → x = (pre.length, evAt evs pre.length) → pre.length < evs.length → body.wpIn (Fence.wide.inRound l) (3 - 1 - 1) Try.prog (ownPostG w.heap.size (KpR v.ownBlock) (fun (pre : List (Nat × Ev)) W => KInv E (cnt c (pre.length : Int) :: rest) w.heap.size W) (fun c' pre W => (c' = .exit id ∧ ¬ full) ∧ KInv E (cnt c (pre.length : Int) :: rest) w.heap.size W) (pre ++ [x]) W) (a₁ x D) W)
    (hend : ∀ (D n : Nat) (W : World), w.heap.size ≤ D → (full → n = evs.length) → KInv E (cnt c (n : Int) :: mrk D :: rest) w.heap.size W → Q .normal { a with defers := { target := .collected D, args := #[] } :: a.defers } W) :
    (Code.rangeFunc g #[p1, p2] assign body).wpIn Fence.wide 3 Try.prog (Exit.inBlock id Q) a w := by
  have hE := h0.1.size
  have hc : c < w.heap.size := h0.lt (List.mem_cons_self ..)
  have hr : ∀ y ∈ rest, y.1 < w.heap.size := fun y hy => h0.lt (List.mem_cons_of_mem _ hy)
  have hlt : ∀ (pre : List (Nat × Ev)), ∀ x ∈ cnt c (pre.length : Int) :: rest, x.1 < w.heap.size := fun pre x hx => by
    rcases List.mem_cons.1 hx with rfl | hx
    · exact hc
    · exact hr x hx
  have own : OwnFrom w.heap.size (fun (pre : List (Nat × Ev)) W => KInv E (cnt c (pre.length : Int) :: rest) w.heap.size W) := KInv.own hE _ hlt
  have mk : ∀ {n : Int} {D : Nat} {W : World}, KInv E (cnt c n :: rest) w.heap.size W → W.heap[D]? = some (.deferred (some [])) → KInv E (cnt c n :: mrk D :: rest) w.heap.size W := fun h hd => ⟨h.1, fun x hx => by
    simp only [List.mem_cons] at hx
    rcases hx with rfl | rfl | hx
    · exact h.2.1 _ (List.mem_cons_self ..)
    · exact hd
    · exact h.2.1 x (List.mem_cons_of_mem _ hx), h.2.2⟩
  refine range_evx1 a₁ hg hreach hBs hI0 (fun pre W => KInv E (cnt c (pre.length : Int) :: rest) w.heap.size W) (fun c' pre W => (c' = .exit id ∧ ¬ full) ∧ KInv E (cnt c (pre.length : Int) :: rest) w.heap.size W)
    own (fun c' s A' B' row hs hg hr => ⟨hs.1, own s A' B' row hs.2 hg hr⟩) h0 ?_ hbody ?_ ?_
  · intro l pre x W K hI hx hK
    have bb : Below W.heap.size W (W.alloc (.cells #[.int .i64 x.2.kind, .int .i64 x.2.id, .int .i64 x.2.frm] 59)) := (Below.refl _ _).alloc (Nat.le_refl _) _
    exact hassign l x W K (by rintro D rfl; exact hK W.heap.size _ (keepsFrom_below bb) ⟨by simp, fun k e => old_at (Nat.lt_of_lt_of_le (hI0.lt k e).2 hI.2.2)⟩ (hI.below bb) (new_at rfl) hI.2.2)
  · intro D W hD hI hd
    have h := hend D evs.length W hD (fun _ => rfl) (mk (by rw [upE_length] at hI; exact hI) hd)
    exact h
  · rintro D c' k W hD hk ⟨⟨rfl, hf⟩, hI⟩ hd
    rw [upE_length] at hI
    have h := hend D k W hD (fun h => absurd h hf) (mk hI hd)
    refine wpIn_exit ?_
    simpa [Exit.inBlock] using h
end Go.Proofs.Ytiindnmelegkgaa

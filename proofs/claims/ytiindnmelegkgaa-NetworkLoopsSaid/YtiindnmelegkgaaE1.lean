/- The iterator over events: the body may lean on what it is handed. -/
import Derived.Test.YtiindnmelegkgaaC3
namespace Go.Proofs.Ytiindnmelegkgaa
open Go.RowKit Go.Shelf
set_option linter.unusedSimpArgs false
set_option linter.unusedVariables false
attribute [local go_sem] Oper.semAt_some

/-- What is handed out: the next number and its event. -/
def PxE (evs : List Ev) (pre : List (Nat × Ev)) (x : Nat × Ev) (W : World) : Prop := x = (pre.length, evAt evs pre.length) ∧ pre = upE evs pre.length
set_option maxRecDepth 100000 in
set_option maxHeartbeats 2000000 in
theorem ev61_in (F : Fence) (n : Nat) (h8 : F.fn 61) (hro : F.round = none) (hn : 1 ≤ n) (l Bs b cap len : Nat) (evs : List Ev) (hlen : evs.length = len) (hreach : len ≤ 1000000) (J Jx : List (Nat × Ev) → World → Prop)
    (hJ : ∀ s A o, J s A → J s (A.alloc o))
    (hY : ∀ pre x W, J pre W → PxE evs pre x W → pre.length < len → YieldAt F (n - 1) Try.prog l (encE x) W fun e W' =>
      (e = .returned (.bool true) ∧ J (pre ++ [x]) W' ∧ KpR (some b) W W') ∨ (e = .returned (.bool false) ∧ Jx (pre ++ [x]) W'))
    (W : World) (hBs : W.cell? ⟨Bs, 0, none⟩ = some (.slice (some ⟨b, 0, none⟩) len cap)) (hc : W.ownsRow 0 59 3 (.slice (some ⟨b, 0, none⟩) len cap) len (evs.flatMap Ev.cells)) (h0 : J [] W) :
    CallsIn F n Try.prog 61 #[.func (.yield l) #[] #[], .pointer (some ⟨Bs, 0, none⟩)] W fun e W' => (∃ v, e = .returned v) ∧
      ((∃ ys, ys = upE evs len ∧ J ys W') ∨ (∃ pre, (∃ k, k ≤ len ∧ pre = upE evs k) ∧ Jx pre W')) := by
  refine callsIn_of_wp Try.func61 rfl h8 ?_ hro
  simp only [Try.ntmps61, List.size_toArray, List.length_cons, List.length_nil, Nat.reduceAdd, Nat.reduceSub, Array.replicate_succ, Array.replicate_zero, List.push_toArray, List.append_toArray, List.nil_append, List.cons_append]
  have HE := Lib.hid hlen
  have HC := Lib.hid hc
  have HJ := Lib.hid hJ
  clear hlen hc hJ
  gi_wp2
  gi_loopw [7] (fun i wr => ∃ k : Nat, k ≤ len ∧ i = .int .i64 k ∧ J (upE evs k) wr ∧ KpR (some b) W wr)
    (fun i _ => len - (intOf i).toNat)
  case atStart => exact ⟨0, Nat.zero_le _, rfl, h0, KpR.refl _ _⟩
  case round =>
    obtain ⟨k, hk, rfl, hJs, hnx⟩ := hrel
    by_cases hlt : k < len
    · have hrow : wr.ownsRow 0 59 3 (.slice (some ⟨b, 0, none⟩) len cap) len (evs.flatMap Ev.cells) := row_stays HC.out fun b' hb' => by
        obtain rfl : b = b' := by simpa [Value.ownBlock] using hb'
        exact hnx.2 _ rfl
      obtain ⟨m0, m1, m2⟩ := ev_at hrow (by rw [HE.out]; exact hlt) HE.out
      have hJ1 := HJ.out _ wr (.cells #[.int .i64 (evAt evs k).kind, .int .i64 (evAt evs k).id, .int .i64 (evAt evs k).frm] 59) hJs
      obtain ⟨fn, tmps, assign, body, hy, hR⟩ := hY _ (k, evAt evs k) _ hJ1 ⟨by rw [upE_length], by rw [upE_length]⟩ (by rw [upE_length]; exact hlt)
      unfold encE at hy
      dsimp only at hy
      have hbA : KpR (some b) W (wr.alloc (.cells #[.int .i64 (evAt evs k).kind, .int .i64 (evAt evs k).id, .int .i64 (evAt evs k).frm] 59)) := hnx.trans ⟨by simp, fun k' e => by cases e; exact old_at (Nat.lt_of_lt_of_le (HC.out.lt b rfl).2 hnx.1)⟩
      have HB := Lib.hid hbA
      clear hrow hbA
      gi_wp2
      refine hR.mono ?_
      rintro e W3 (⟨rfl, hJ3, hk3⟩ | ⟨rfl, hJx3⟩)
      · gi_wp2
        go_roundw
        case rel => exact ⟨k + 1, by omega, by simp, by rw [upE_succ]; exact hJ3, HB.out.trans hk3⟩
        case measure => simp [intOf]; omega
      · gi_wp2
        refine bodyPost_ret (results_none rfl _ _ _) rfl ?_
        exact ⟨⟨_, rfl⟩, .inr ⟨_, ⟨k + 1, by omega, (upE_succ _ _).symm⟩, hJx3⟩⟩
    · obtain rfl : k = len := by omega
      gi_wp2
      go_end0
      exact ⟨⟨_, rfl⟩, .inl ⟨_, rfl, hJs⟩⟩

theorem ev61_px (n : Nat) (hn : 1 ≤ n) (Bs : Nat) (v : Value) (evs : List Ev) (hreach : evs.length ≤ 1000000) (w : World) (hBs : w.heap[Bs]? = some (.cells #[v] 26 (0, 0)))
    (hI : w.ownsRow 0 59 3 v evs.length (evs.flatMap Ev.cells)) :
    SeqPx Fence.wide n Try.prog 61 #[.pointer (some ⟨Bs, 0, none⟩)] encE (PxE evs) (KpR v.ownBlock) (fun ys => ys = upE evs evs.length) (fun pre => ∃ k, k ≤ evs.length ∧ pre = upE evs k) evs.length w := fun l J Jx W hW hJ _ hY h0 => by
  have hc' : W.cell? ⟨Bs, 0, none⟩ = some v := by
    have h := (hW.block Bs (Array.getElem?_eq_some_iff.1 hBs).1).trans hBs
    rw [cell_of_row _ _ _ _ _ _ h]; rfl
  have hI' : W.ownsRow 0 59 3 v evs.length (evs.flatMap Ev.cells) := row_stays hI fun b hb => hW.block b (hI.lt b hb).2
  rcases hI'.2 with ⟨rfl, h0'⟩ | ⟨b, cap, cur, rfl, _⟩
  · have he : evs = [] := List.length_eq_zero_iff.1 h0'
    subst he
    exact (all61_nil Fence.wide n trivial rfl l Bs J W hc' h0).mono fun e W' ⟨he, hj⟩ => ⟨he, .inl ⟨_, rfl, hj⟩⟩
  · exact ev61_in Fence.wide n trivial rfl hn l Bs b cap evs.length evs rfl hreach J Jx (fun s A o hs => hJ s A _ none hs (World.grownBy_alloc A o none) (fun r e => by cases e)) hY W hc' hI' h0

/-- A loop over events. -/
theorem range_evx {assign body : Code} {g : Operand} {p1 p2 : Tmp} {Q : Exit → Act → World → Prop} {a : Act} {w : World} {B : Nat} {v : Value} {evs : List Ev} (hg : a.eval g = .func (.func 61) #[] #[.pointer (some ⟨B, 0, none⟩)]) (hreach : evs.length ≤ 1000000)
    (hBs : w.heap[B]? = some (.cells #[v] 26 (0, 0))) (hI0 : w.ownsRow 0 59 3 v evs.length (evs.flatMap Ev.cells))
    (I : List (Nat × Ev) → World → Prop) (Ix : Code → List (Nat × Ev) → World → Prop) (hI : OwnFrom w.heap.size I) (hIx : ∀ c, OwnFrom w.heap.size (Ix c)) (h0 : I [] w)
    (Ax : List (Nat × Ev) → (Nat × Ev) → Act → World → Prop) (hAx : ∀ pre x a', OwnFrom w.heap.size (fun (_ : Unit) W => Ax pre x a' W))
    (hassign : ∀ (l : Nat) (pre : List (Nat × Ev)) (x : Nat × Ev) (W : World) (K : Act → World → Prop), I pre W → PxE evs pre x W → (∀ a' W', KeepsFrom w.heap.size W W' → KpR v.ownBlock W W' → I pre W' → Ax pre x a' W' → K a' W') →
      assign.wpIn (Fence.wide.inRound l) (3 - 1 - 1) Try.prog (Exit.then K (fun _ _ _ => False)) { tmps := (#[p1, p2].zip (encE x)).foldl (fun t (p, v) => t.setIfInBounds p v) a.tmps, defers := [] } W)
    (hbody : ∀ (l : Nat) (pre : List (Nat × Ev)) (x : Nat × Ev) (a' : Act) (W : World), I pre W → Ax pre x a' W → pre.length < evs.length → body.wpIn (Fence.wide.inRound l) (3 - 1 - 1) Try.prog (ownPostG w.heap.size (KpR v.ownBlock) I Ix (pre ++ [x]) W) a' W)
    (hdone : ∀ (D : Nat) (W : World), w.heap.size ≤ D → I (upE evs evs.length) W → W.heap[D]? = some (.deferred (some [])) → Q .normal { a with defers := { target := .collected D, args := #[] } :: a.defers } W)
    (hstop : ∀ (D : Nat) (c : Code) (k : Nat) (W : World), w.heap.size ≤ D → k ≤ evs.length → Ix c (upE evs k) W → W.heap[D]? = some (.deferred (some [])) → c.wpIn Fence.wide 3 Try.prog Q { a with defers := { target := .collected D, args := #[] } :: a.defers } W) :
    (Code.rangeFunc g #[p1, p2] assign body).wpIn Fence.wide 3 Try.prog Q a w :=
  wpIn_range_px (F := Fence.wide) (n := 3) rfl (by decide) hg trivial (enters_of Try.func61 (by kernel_rfl) rfl) (ev61_px 2 (by decide) B v evs hreach w hBs hI0) KpR.trans (KpR.put fun k e => (hI0.lt k e).2) (Below.refl _ _) (fun _ => rfl) I Ix hI hIx h0
    Ax hAx hassign hbody (fun D xs W hD hxs hI hK => by subst hxs; exact hdone D W hD hI hK) (fun D c pre W hD hSp h hK => by obtain ⟨k, hk, rfl⟩ := hSp; exact hstop D c k W hD hk h hK)

/-- .. where the assignment lays one box: the frame is a function of what is handed out and of the box. -/
theorem range_evx1 {assign body : Code} {g : Operand} {p1 p2 : Tmp} {Q : Exit → Act → World → Prop} {a : Act} {w : World} {B : Nat} {v : Value} {evs : List Ev} (a₁ : Nat × Ev → Nat → Act) (hg : a.eval g = .func (.func 61) #[] #[.pointer (some ⟨B, 0, none⟩)]) (hreach : evs.length ≤ 1000000)
    (hBs : w.heap[B]? = some (.cells #[v] 26 (0, 0))) (hI0 : w.ownsRow 0 59 3 v evs.length (evs.flatMap Ev.cells))
    (I : List (Nat × Ev) → World → Prop) (Ix : Code → List (Nat × Ev) → World → Prop) (hI : OwnFrom w.heap.size I) (hIx : ∀ c, OwnFrom w.heap.size (Ix c)) (h0 : I [] w)
    (hassign : ∀ (l : Nat) (pre : List (Nat × Ev)) (x : Nat × Ev) (W : World) (K : Act → World → Prop), I pre W → PxE evs pre x W → (∀ D W', KeepsFrom w.heap.size W W' → KpR v.ownBlock W W' → I pre W' → W'.heap[D]? = some (.cells #[.int .i64 x.2.kind, .int .i64 x.2.id, .int .i64 x.2.frm] 59 (0, 0)) → w.heap.size ≤ D → K (a₁ x D) W') →
      assign.wpIn (Fence.wide.inRound l) (3 - 1 - 1) Try.prog (Exit.then K (fun _ _ _ => False)) { tmps := (#[p1, p2].zip (encE x)).foldl (fun t (p, v) => t.setIfInBounds p v) a.tmps, defers := [] } W)
    (hbody : ∀ (l : Nat) (pre : List (Nat × Ev)) (x : Nat × Ev) (D : Nat) (W : World), I pre W → W.heap[D]? = some (.cells #[.int .i64 x.2.kind, .int .i64 x.2.id, .int .i64 x.2.frm] 59 (0, 0)) → w.heap.size ≤ D → x = (pre.length, evAt evs pre.length) → pre.length < evs.length → body.wpIn (Fence.wide.inRound l) (3 - 1 - 1) Try.prog (ownPostG w.heap.size (KpR v.ownBlock) I Ix (pre ++ [x]) W) (a₁ x D) W)
    (hdone : ∀ (D : Nat) (W : World), w.heap.size ≤ D → I (upE evs evs.length) W → W.heap[D]? = some (.deferred (some [])) → Q .normal { a with defers := { target := .collected D, args := #[] } :: a.defers } W)
    (hstop : ∀ (D : Nat) (c : Code) (k : Nat) (W : World), w.heap.size ≤ D → k ≤ evs.length → Ix c (upE evs k) W → W.heap[D]? = some (.deferred (some [])) → c.wpIn Fence.wide 3 Try.prog Q { a with defers := { target := .collected D, args := #[] } :: a.defers } W) :
    (Code.rangeFunc g #[p1, p2] assign body).wpIn Fence.wide 3 Try.prog Q a w := by
  refine range_evx hg hreach hBs hI0 I Ix hI hIx h0
    (fun pre x a' W => ∃ D, a' = a₁ x D ∧ W.heap[D]? = some (.cells #[.int .i64 x.2.kind, .int .i64 x.2.id, .int .i64 x.2.frm] 59 (0, 0)) ∧ w.heap.size ≤ D ∧ x = (pre.length, evAt evs pre.length)) ?_ (fun l pre x W K hi hx hK => hassign l pre x W K hi hx fun D W' h1 h2 h3 h4 h5 => hK _ _ h1 h2 h3 ⟨D, rfl, h4, h5, hx.1⟩)
    (fun l pre x a' W hi ⟨D, ha, h1, h2, h3⟩ hlt => by rw [ha]; exact hbody l pre x D W hi h1 h2 h3 hlt) hdone hstop
  rintro pre x a' s W W' row ⟨D, h1, h2, h3⟩ hg hr
  refine ⟨D, h1, (hg.block _ (Array.getElem?_eq_some_iff.1 h2).1 (fun e => ?_)).trans h2, h3⟩
  obtain ⟨_, o, ho, hc⟩ := hr _ e.symm
  rw [h2] at ho
  cases ho
  cases hc

/-- A loop over one of the iterators that hand out packets, where the assignment lays no memory. -/
theorem range_px0 {assign body : Code} {g : Operand} {p1 p2 : Tmp} {Q : Exit → Act → World → Prop} {a : Act} {w : World} {gf : Nat} {lb : Array Value} {Px : List (Nat × Pk) → (Nat × Pk) → World → Prop} {S : Nat → Prop} {Sd Sp : List (Nat × Pk) → Prop} {M : Nat} (a₁ : Nat × Pk → Act)
    (hg : a.eval g = .func (.func gf) #[] lb) (eg : ∀ args w, (callFunc gf args).run Try.prog w = .ok (.enter gf args) w)
    (hseq : SeqPx Fence.wide 2 Try.prog gf lb encP Px (KpS S) Sd Sp M w) (hS : ∀ k, S k → k < w.heap.size)
    (I : List (Nat × Pk) → World → Prop) (Ix : Code → List (Nat × Pk) → World → Prop) (hI : OwnFrom w.heap.size I) (hIx : ∀ c, OwnFrom w.heap.size (Ix c)) (h0 : I [] w)
    (hPx : ∀ pre x, OwnFrom w.heap.size (fun (_ : Unit) W => Px pre x W))
    (hassign : ∀ (l : Nat) (pre : List (Nat × Pk)) (x : Nat × Pk) (W : World) (K : Act → World → Prop), I pre W → Px pre x W → K (a₁ x) W →
      assign.wpIn (Fence.wide.inRound l) (3 - 1 - 1) Try.prog (Exit.then K (fun _ _ _ => False)) { tmps := (#[p1, p2].zip (encP x)).foldl (fun t (p, v) => t.setIfInBounds p v) a.tmps, defers := [] } W)
    (hbody : ∀ (l : Nat) (pre : List (Nat × Pk)) (x : Nat × Pk) (W : World), I pre W → Px pre x W → pre.length < M → body.wpIn (Fence.wide.inRound l) (3 - 1 - 1) Try.prog (ownPostG w.heap.size (KpS S) I Ix (pre ++ [x]) W) (a₁ x) W)
    (hdone : ∀ (D : Nat) (xs : List (Nat × Pk)) (W : World), w.heap.size ≤ D → Sd xs → I xs W → W.heap[D]? = some (.deferred (some [])) → Q .normal { a with defers := { target := .collected D, args := #[] } :: a.defers } W)
    (hstop : ∀ (D : Nat) (c : Code) (pre : List (Nat × Pk)) (W : World), w.heap.size ≤ D → Sp pre → Ix c pre W → W.heap[D]? = some (.deferred (some [])) → c.wpIn Fence.wide 3 Try.prog Q { a with defers := { target := .collected D, args := #[] } :: a.defers } W) :
    (Code.rangeFunc g #[p1, p2] assign body).wpIn Fence.wide 3 Try.prog Q a w := by
  refine range_px hg eg hseq hS I Ix hI hIx h0 (fun pre x a' W => a' = a₁ x ∧ Px pre x W) ?_ (fun l pre x W K hi hx hK => hassign l pre x W K hi hx (hK _ _ ⟨Nat.le_refl _, fun _ _ _ h _ => h⟩ (KpS.refl _ _) hi ⟨rfl, hx⟩))
    (fun l pre x a' W hi ⟨ha, h1⟩ hlt => by rw [ha]; exact hbody l pre x W hi h1 hlt) hdone hstop
  rintro pre x a' s W W' row ⟨h1, h2⟩ hg hr
  exact ⟨h1, hPx pre x () W W' row h2 hg hr⟩

/-- .. where the assignment lays the packet's box. -/
theorem range_px1 {assign body : Code} {g : Operand} {p1 p2 : Tmp} {Q : Exit → Act → World → Prop} {a : Act} {w : World} {gf : Nat} {lb : Array Value} {Px : List (Nat × Pk) → (Nat × Pk) → World → Prop} {S : Nat → Prop} {Sd Sp : List (Nat × Pk) → Prop} {M : Nat} (a₁ : Nat × Pk → Nat → Act)
    (hg : a.eval g = .func (.func gf) #[] lb) (eg : ∀ args w, (callFunc gf args).run Try.prog w = .ok (.enter gf args) w)
    (hseq : SeqPx Fence.wide 2 Try.prog gf lb encP Px (KpS S) Sd Sp M w) (hS : ∀ k, S k → k < w.heap.size)
    (I : List (Nat × Pk) → World → Prop) (Ix : Code → List (Nat × Pk) → World → Prop) (hI : OwnFrom w.heap.size I) (hIx : ∀ c, OwnFrom w.heap.size (Ix c)) (h0 : I [] w)
    (hPx : ∀ pre x, OwnFrom w.heap.size (fun (_ : Unit) W => Px pre x W))
    (hassign : ∀ (l : Nat) (pre : List (Nat × Pk)) (x : Nat × Pk) (W : World) (K : Act → World → Prop), I pre W → Px pre x W → (∀ D W', KeepsFrom w.heap.size W W' → KpS S W W' → I pre W' → Px pre x W' → W'.heap[D]? = some (.cells #[.string x.2.frm, .string x.2.to, x.2.bv] 35 (0, 0)) → w.heap.size ≤ D → K (a₁ x D) W') →
      assign.wpIn (Fence.wide.inRound l) (3 - 1 - 1) Try.prog (Exit.then K (fun _ _ _ => False)) { tmps := (#[p1, p2].zip (encP x)).foldl (fun t (p, v) => t.setIfInBounds p v) a.tmps, defers := [] } W)
    (hbody : ∀ (l : Nat) (pre : List (Nat × Pk)) (x : Nat × Pk) (D : Nat) (W : World), I pre W → Px pre x W → W.heap[D]? = some (.cells #[.string x.2.frm, .string x.2.to, x.2.bv] 35 (0, 0)) → w.heap.size ≤ D → pre.length < M → body.wpIn (Fence.wide.inRound l) (3 - 1 - 1) Try.prog (ownPostG w.heap.size (KpS S) I Ix (pre ++ [x]) W) (a₁ x D) W)
    (hdone : ∀ (D : Nat) (xs : List (Nat × Pk)) (W : World), w.heap.size ≤ D → Sd xs → I xs W → W.heap[D]? = some (.deferred (some [])) → Q .normal { a with defers := { target := .collected D, args := #[] } :: a.defers } W)
    (hstop : ∀ (D : Nat) (c : Code) (pre : List (Nat × Pk)) (W : World), w.heap.size ≤ D → Sp pre → Ix c pre W → W.heap[D]? = some (.deferred (some [])) → c.wpIn Fence.wide 3 Try.prog Q { a with defers := { target := .collected D, args := #[] } :: a.defers } W) :
    (Code.rangeFunc g #[p1, p2] assign body).wpIn Fence.wide 3 Try.prog Q a w := by
  refine range_px hg eg hseq hS I Ix hI hIx h0 (fun pre x a' W => ∃ D, a' = a₁ x D ∧ Px pre x W ∧ W.heap[D]? = some (.cells #[.string x.2.frm, .string x.2.to, x.2.bv] 35 (0, 0)) ∧ w.heap.size ≤ D) ?_
    (fun l pre x W K hi hx hK => hassign l pre x W K hi hx fun D W' h1 h2 h3 h4 h5 h6 => hK _ _ h1 h2 h3 ⟨D, rfl, h4, h5, h6⟩)
    (fun l pre x a' W hi ⟨D, ha, h1, h2, h3⟩ hlt => by rw [ha]; exact hbody l pre x D W hi h1 h2 h3 hlt) hdone hstop
  rintro pre x a' s W W' row ⟨D, h1, h2, h3, h4⟩ hg hr
  refine ⟨D, h1, hPx pre x () W W' row h2 hg hr, (hg.block _ (Array.getElem?_eq_some_iff.1 h3).1 (fun e => ?_)).trans h3, h4⟩
  obtain ⟨_, o, ho, hc⟩ := hr _ e.symm
  rw [h3] at ho
  cases ho
  cases hc
end Go.Proofs.Ytiindnmelegkgaa

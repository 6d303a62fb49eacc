/- The iterator over the events. -/
import Derived.Test.YtiindnmelegkgaaEvents
import Derived.RangeFuncNested
import Derived.RangeFuncBound
import Derived.RangeFuncCalls
import Derived.RangeFuncLeaves
import Derived.Shelf.Abstract
import Derived.Shelf.RegionOpen
import Derived.OwnWalkIn
import Derived.TacticsInMore
import Derived.LoopNIn
import Derived.LoopIn
namespace Go.Proofs.Ytiindnmelegkgaa
open Go.RowKit Go.Shelf
set_option linter.unusedSimpArgs false
set_option linter.unusedVariables false
attribute [local go_sem] Oper.semAt_some

def evAt (evs : List Ev) (j : Nat) : Ev := evs[j]?.getD ⟨0, 0, 0⟩
def upE (evs : List Ev) (k : Nat) : List (Nat × Ev) := (List.range k).map fun j => (j, evAt evs j)
theorem upE_succ (evs : List Ev) (k : Nat) : upE evs (k + 1) = upE evs k ++ [(k, evAt evs k)] := by simp [upE, List.range_succ]
theorem upE_length (evs : List Ev) (k : Nat) : (upE evs k).length = k := by simp [upE]
def encE (x : Nat × Ev) : Array Value := #[.int .i64 (x.1 : Int), .agg #[.int .i64 x.2.kind, .int .i64 x.2.id, .int .i64 x.2.frm]]

theorem ev_at {w : World} {g cap : Nat} {evs : List Ev} {m : Nat} (h : w.ownsRow 0 59 3 (.slice (some ⟨g, 0, none⟩) m cap) m (evs.flatMap Ev.cells)) {k : Nat} (hk : k < evs.length) (hm : evs.length = m) :
    w.cell? ⟨g, k * 3, none⟩ = some (.int .i64 (evAt evs k).kind) ∧ w.cell? ⟨g, k * 3 + 1, none⟩ = some (.int .i64 (evAt evs k).id) ∧ w.cell? ⟨g, k * 3 + 2, none⟩ = some (.int .i64 (evAt evs k).frm) := by
  have e : ∀ i, i < 3 → w.cell? ⟨g, k * 3 + i, none⟩ = (evAt evs k).cells[i]? := fun i hi => by
    rw [h.cellAt _ (by omega), flat_get Ev.cells 3 (fun _ => rfl) evs k i hi, List.getElem?_eq_getElem hk]
    simp [evAt, List.getElem?_eq_getElem hk]
  exact ⟨e 0 (by decide), e 1 (by decide), e 2 (by decide)⟩

/-- What a round must keep: the row. -/
def KpR (b : Option Nat) (W W' : World) : Prop := W.heap.size ≤ W'.heap.size ∧ ∀ k, b = some k → W'.heap[k]? = W.heap[k]?
theorem KpR.refl (b : Option Nat) (W : World) : KpR b W W := ⟨Nat.le_refl _, fun _ _ => rfl⟩
theorem KpR.trans {b : Option Nat} {A B C : World} (h : KpR b A B) (k : KpR b B C) : KpR b A C := ⟨Nat.le_trans h.1 k.1, fun j e => (k.2 j e).trans (h.2 j e)⟩
theorem KpR.put {b : Option Nat} {w : World} (hb : ∀ k, b = some k → k < w.heap.size) (W : World) (l : Nat) (o o' : Obj) (hl : w.heap.size ≤ l) (h : W.heap[l]? = some o) (_ : o.isCells = false) (_ : o.isWalk = false) : KpR b W (W.putObj l o') := by
  have hg := grownBy_putObj' W l o'
  refine ⟨hg.size, fun k e => hg.block k ?_ (fun e' => ?_)⟩
  · have := hb k e
    have := (Array.getElem?_eq_some_iff.1 h).1
    omega
  · cases e'
    have := hb _ e
    omega

set_option maxRecDepth 100000 in
set_option maxHeartbeats 2000000 in
theorem all61_in (F : Fence) (n : Nat) (h8 : F.fn 61) (hro : F.round = none) (hn : 1 ≤ n) (l Bs b cap len : Nat) (evs : List Ev) (hlen : evs.length = len) (hreach : len ≤ 1000000) (J Jx : List (Nat × Ev) → World → Prop)
    (hJ : ∀ s A o, J s A → J s (A.alloc o))
    (hY : ∀ pre x W, J pre W → pre.length < len → YieldAt F (n - 1) Try.prog l (encE x) W fun e W' =>
      (e = .returned (.bool true) ∧ J (pre ++ [x]) W' ∧ KpR (some b) W W') ∨ (e = .returned (.bool false) ∧ Jx (pre ++ [x]) W'))
    (W : World) (hBs : W.cell? ⟨Bs, 0, none⟩ = some (.slice (some ⟨b, 0, none⟩) len cap)) (hc : W.ownsRow 0 59 3 (.slice (some ⟨b, 0, none⟩) len cap) len (evs.flatMap Ev.cells)) (h0 : J [] W) :
    CallsIn F n Try.prog 61 #[.func (.yield l) #[] #[], .pointer (some ⟨Bs, 0, none⟩)] W fun e W' => (∃ v, e = .returned v) ∧
      ((∃ ys, ys = upE evs len ∧ J ys W') ∨ (∃ pre, (∃ k, k ≤ len ∧ pre = upE evs k) ∧ Jx pre W')) := by
  refine callsIn_of_wp Try.func61 rfl h8 ?_ hro
  simp only [Try.ntmps61, List.size_toArray, List.length_cons, List.length_nil, Nat.reduceAdd, Nat.reduceSub, Array.replicate_succ, Array.replicate_zero, List.push_toArray, List.append_toArray, List.nil_append, List.cons_append]
  have HE := Lib.hid hlen
  have HC := Lib.hid hc
  have HJ := Lib.hid hJ
  clear hlen hc hJ
  gi_wp2
  gi_loopw [7] (fun i wr => ∃ k : Nat, k ≤ len ∧ i = .int .i64 k ∧ J (upE evs k) wr ∧ KpR (some b) W wr)
    (fun i _ => len - (intOf i).toNat)
  case atStart => exact ⟨0, Nat.zero_le _, rfl, h0, KpR.refl _ _⟩
  case round =>
    obtain ⟨k, hk, rfl, hJs, hnx⟩ := hrel
    by_cases hlt : k < len
    · have hrow : wr.ownsRow 0 59 3 (.slice (some ⟨b, 0, none⟩) len cap) len (evs.flatMap Ev.cells) := row_stays HC.out fun b' hb' => by
        obtain rfl : b = b' := by simpa [Value.ownBlock] using hb'
        exact hnx.2 _ rfl
      obtain ⟨m0, m1, m2⟩ := ev_at hrow (by rw [HE.out]; exact hlt) HE.out
      have hJ1 := HJ.out _ wr (.cells #[.int .i64 (evAt evs k).kind, .int .i64 (evAt evs k).id, .int .i64 (evAt evs k).frm] 59) hJs
      obtain ⟨fn, tmps, assign, body, hy, hR⟩ := hY _ (k, evAt evs k) _ hJ1 (by rw [upE_length]; exact hlt)
      unfold encE at hy
      dsimp only at hy
      have hbA : KpR (some b) W (wr.alloc (.cells #[.int .i64 (evAt evs k).kind, .int .i64 (evAt evs k).id, .int .i64 (evAt evs k).frm] 59)) := hnx.trans ⟨by simp, fun k' e => by cases e; exact old_at (Nat.lt_of_lt_of_le (HC.out.lt b rfl).2 hnx.1)⟩
      have HB := Lib.hid hbA
      clear hrow hbA
      gi_wp2
      refine hR.mono ?_
      rintro e W3 (⟨rfl, hJ3, hk3⟩ | ⟨rfl, hJx3⟩)
      · gi_wp2
        go_roundw
        case rel => exact ⟨k + 1, by omega, by simp, by rw [upE_succ]; exact hJ3, HB.out.trans hk3⟩
        case measure => simp [intOf]; omega
      · gi_wp2
        refine bodyPost_ret (results_none rfl _ _ _) rfl ?_
        exact ⟨⟨_, rfl⟩, .inr ⟨_, ⟨k + 1, by omega, (upE_succ _ _).symm⟩, hJx3⟩⟩
    · obtain rfl : k = len := by omega
      gi_wp2
      go_end0
      exact ⟨⟨_, rfl⟩, .inl ⟨_, rfl, hJs⟩⟩

set_option maxRecDepth 100000 in
set_option maxHeartbeats 1000000 in
theorem all61_nil (F : Fence) (n : Nat) (h8 : F.fn 61) (hro : F.round = none) (l Bs : Nat) (J : List (Nat × Ev) → World → Prop) (W : World) (hBs : W.cell? ⟨Bs, 0, none⟩ = some (.slice none 0 0)) (h0 : J [] W) :
    CallsIn F n Try.prog 61 #[.func (.yield l) #[] #[], .pointer (some ⟨Bs, 0, none⟩)] W fun e W' => (∃ v, e = .returned v) ∧ J [] W' := by
  refine callsIn_of_wp Try.func61 rfl h8 ?_ hro
  simp only [Try.ntmps61, List.size_toArray, List.length_cons, List.length_nil, Nat.reduceAdd, Nat.reduceSub, Array.replicate_succ, Array.replicate_zero, List.push_toArray, List.append_toArray, List.nil_append, List.cons_append]
  gi_wp2
  gi_loopw [7] (fun i wr => i = .int .i64 0 ∧ J [] wr) (fun _ _ => 0)
  case atStart => exact ⟨rfl, h0⟩
  case round =>
    obtain ⟨rfl, hJs⟩ := hrel
    gi_wp2
    go_end0
    exact ⟨⟨_, rfl⟩, hJs⟩

theorem all61_stops (F : Fence) (n : Nat) (h8 : F.fn 61) (hro : F.round = none) (hn : 1 ≤ n) (Bs : Nat) (v : Value) (evs : List Ev) (hreach : evs.length ≤ 1000000) (w : World) (hBs : w.heap[Bs]? = some (.cells #[v] 26 (0, 0)))
    (hI : w.ownsRow 0 59 3 v evs.length (evs.flatMap Ev.cells)) :
    SeqStopsK F n Try.prog 61 #[.pointer (some ⟨Bs, 0, none⟩)] encE (KpR v.ownBlock) (fun ys => ys = upE evs evs.length) (fun pre => ∃ k, k ≤ evs.length ∧ pre = upE evs k) evs.length w := fun l J Jx W hW hJ _ hY h0 => by
  have hc' : W.cell? ⟨Bs, 0, none⟩ = some v := by
    have h := (hW.block Bs (Array.getElem?_eq_some_iff.1 hBs).1).trans hBs
    rw [cell_of_row _ _ _ _ _ _ h]; rfl
  have hI' : W.ownsRow 0 59 3 v evs.length (evs.flatMap Ev.cells) := row_stays hI fun b hb => hW.block b (hI.lt b hb).2
  rcases hI'.2 with ⟨rfl, h0'⟩ | ⟨b, cap, cur, rfl, _⟩
  · have he : evs = [] := List.length_eq_zero_iff.1 h0'
    subst he
    exact (all61_nil F n h8 hro l Bs J W hc' h0).mono fun e W' ⟨he, hj⟩ => ⟨he, .inl ⟨_, rfl, hj⟩⟩
  · exact all61_in F n h8 hro hn l Bs b cap evs.length evs rfl hreach J Jx (fun s A o hs => hJ s A _ none hs (World.grownBy_alloc A o none) (fun r e => by cases e)) hY W hc' hI' h0
end Go.Proofs.Ytiindnmelegkgaa

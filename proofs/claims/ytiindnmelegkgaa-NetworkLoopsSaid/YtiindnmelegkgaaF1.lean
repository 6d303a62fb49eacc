/- What can be seen of a network; flight. -/
import Derived.Test.YtiindnmelegkgaaB1
import Derived.Test.YtiindnmelegkgaaC7
import Derived.Test.YtiindnmelegkgaaE1
namespace Go.Proofs.Ytiindnmelegkgaa
open Go.RowKit Go.Shelf
set_option linter.unusedSimpArgs false
set_option linter.unusedVariables false

theorem FlSeq.below' {w w' : World} {base : Nat} {fl : List AFl} {B : Nat} {v : Value} {L : List Fl} (h : FlSeq w base fl B v L) (hb : Below w.heap.size w w') : FlSeq w' base fl B v L :=
  ⟨(hb.block _ (Array.getElem?_eq_some_iff.1 h.box).1).trans h.box, h.hB, row_stays h.row fun b h' => hb.block b (h.row.lt b h').2, h.far, h.abs, fun x hx => row_stays (h.own x hx) fun b h' => hb.block b ((h.own x hx).lt b h').2, h.ofar⟩
/-- The parts of a slice. -/
def slA : Value → Option Addr
  | .slice a _ _ => a
  | _ => none
def slC : Value → Nat
  | .slice _ _ c => c
  | _ => 0
theorem slice_parts {w : World} {v : Value} {bs : List Int} (h : ownB w v bs) : v = .slice (slA v) bs.length (slC v) := by
  obtain ⟨a, c, rfl⟩ := ownB_slice h
  rfl

/-- An iterator over a history. -/
structure HiIt (w' : World) (base : Nat) (hist : List APk) (e : Ending) : Prop where
  seq : ∃ B v L, e = .returned (.func (.func 53) #[] #[.pointer (some ⟨B, 0, none⟩)]) ∧ HiSeq w' base L B v ∧ L.map Pk.abs = hist ∧ (∀ q ∈ L, ownB w' q.bv q.bs) ∧ ∀ q ∈ L, q.bs.length ≤ 65536
/-- What the network at pv shows, in every world that grows out of w. -/
structure Seen (pv : Value) (A : Abs) (w : World) : Prop where
  flight : ∀ ww, Below w.heap.size w ww → Calls Try.prog 22 #[pv] ww fun e w' => FlIt w' ww.heap.size A.fl e ∧ Below ww.heap.size ww w'
  hist : ∀ ww, Below w.heap.size w ww → Calls Try.prog 28 #[pv] ww fun e w' => HiIt w' ww.heap.size A.hist e ∧ Below ww.heap.size ww w'
  events : ∀ ww, Below w.heap.size w ww → Calls Try.prog 23 #[pv] ww fun e w' => EvSeq ww w' A.evs e
  source : ∀ ww, Below w.heap.size w ww → ∀ x ∈ A.fl, Calls Try.prog 25 #[pv, .int .i64 (x.id : Nat)] ww fun e w' => e = .returned (.tuple #[.int .i64 x.src, .int .i64 0]) ∧ Below ww.heap.size ww w'
  genuine : ∀ ww, Below w.heap.size w ww → ∀ x ∈ A.fl, Calls Try.prog 16 #[pv, .int .i64 (x.id : Nat)] ww fun e w' => e = .returned (.tuple #[.bool (A.genu x), .int .i64 0]) ∧ Below ww.heap.size ww w'
theorem Seen.below {pv : Value} {A : Abs} {w w' : World} (h : Seen pv A w) (hb : Below w.heap.size w w') : Seen pv A w' :=
  ⟨fun ww hw => h.flight ww (hb.trans (hw.mono hb.size)), fun ww hw => h.hist ww (hb.trans (hw.mono hb.size)), fun ww hw => h.events ww (hb.trans (hw.mono hb.size)), fun ww hw => h.source ww (hb.trans (hw.mono hb.size)), fun ww hw => h.genuine ww (hb.trans (hw.mono hb.size))⟩
theorem Rep.seen {ρ : Nat → Nat} {w : World} {p : Nat} {N : Net} (R : Rep ρ w p N) (T : Tiny N.abs) (hs : ∀ x ∈ N.abs.fl, x.src < (N.abs.hist.length : Int)) : Seen (.pointer (some ⟨p, 0, none⟩)) N.abs w := by
  have ids : N.abs.fl.Pairwise (fun x y => x.id < y.id) := List.Pairwise.map _ (fun _ _ h => h) R.ids
  have lt : ∀ x ∈ N.abs.fl, x.id < N.abs.next := fun x hx => by
    obtain ⟨y, hy, rfl⟩ := List.mem_map.1 hx
    exact R.idn y hy
  refine ⟨fun ww hw => ?_, fun ww hw => ?_, fun ww hw => ?_, fun ww hw x hx => ?_, fun ww hw x hx => ?_⟩
  · refine (flight_any (R.below hw) T.small).mono ?_
    rintro e w' ⟨⟨B, v, L, rfl, hF⟩, hb⟩
    refine ⟨⟨B, v, L, rfl, hF, fun x hx => ?_⟩, hb⟩
    have hm : x.abs ∈ N.fl.map Fl.abs := by rw [← hF.abs]; exact List.mem_map_of_mem hx
    obtain ⟨y, hy, e⟩ := List.mem_map.1 hm
    have hv := R.fok y hy
    simp only [validB, Bool.and_eq_true, decide_eq_true_eq] at hv
    have : y.p.bs = x.p.bs := congrArg AFl.bs e
    rw [← this]
    exact hv.2
  · refine (history_any (R.below hw) T.small).mono ?_
    rintro e w' ⟨⟨B, v, rfl, hF⟩, hb⟩
    refine ⟨⟨B, v, N.hist, rfl, hF, rfl, fun q hq => row_stays (R.hb q hq) fun b h => ?_, fun q hq => ?_⟩, hb⟩
    · have hl := ((R.hb q hq).lt b h).2
      exact (hb.block b (Nat.lt_of_lt_of_le hl hw.size)).trans (hw.block b hl)
    · have hv := R.hok q hq
      simp only [validB, Bool.and_eq_true, decide_eq_true_eq] at hv
      exact hv.2
  · exact events_any (R.below hw) T.small
  · have hi := lt x hx
    have hn := T.next
    have h := source_all (R.below hw) T.small (x.id : Nat) (by omega) (by omega)
    obtain ⟨ix, hf⟩ := find_id ids hx
    have : N.abs.source (x.id : Nat) = (x.src, 0) := by unfold Abs.source; rw [hf]
    rw [this] at h
    exact h
  · have hi := lt x hx
    have hn := T.next
    have h := genuine_all (R.below hw) T.small (x.id : Nat) (fun y hy => by
      have := hs y.abs (List.mem_map_of_mem hy)
      rw [abs_hist] at this
      exact this) (by omega) (by omega)
    obtain ⟨ix, hf⟩ := find_id ids hx
    have : N.abs.genuine (x.id : Nat) = (N.abs.genu x, 0) := by unfold Abs.genuine; rw [hf]
    rw [this] at h
    exact h
theorem KS.seen {w0 w : World} {p : Nat} {A : Abs} {kept : List (Nat × Obj)} (h : KS w0 p A kept w) (T : Tiny A) (hs : ∀ x ∈ A.fl, x.src < (A.hist.length : Int)) : Seen (.pointer (some ⟨p, 0, none⟩)) A w := by
  obtain ⟨ρ, N, R, rfl, _⟩ := h
  exact R.seen T hs
end Go.Proofs.Ytiindnmelegkgaa

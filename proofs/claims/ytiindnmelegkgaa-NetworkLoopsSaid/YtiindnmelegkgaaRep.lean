/- A network in memory. -/
import Derived.Test.YtiindnmelegkgaaLeaf
import Derived.Maps.Own
namespace Go.Proofs.Ytiindnmelegkgaa
open Go.RowKit
set_option linter.unusedSimpArgs false

structure Fl where
  p : Pk
  id : Nat
  src : Int
def Fl.cells (x : Fl) : List Value := [.string x.p.frm, .string x.p.to, x.p.bv, .int .i64 x.id, .int .i64 x.src]
structure Ev where
  kind : Int
  id : Int
  frm : Int
def Ev.cells (x : Ev) : List Value := [.int .i64 x.kind, .int .i64 x.id, .int .i64 x.frm]
structure Net where
  fl : List Fl
  hist : List Pk
  evs : List Ev
  bl : ByteArray → ByteArray → Bool
  cnt : Nat
  next : Nat
  vf : Value
  vh : Value
  ve : Value
  vm : Value

def keyV (f t : ByteArray) : Value := .agg #[.string f, .string t]
def mapOk (w : World) (vm : Value) (bl : ByteArray → ByteArray → Bool) (cnt : Nat) : Prop :=
  (vm = .map none ∧ ∀ f t, bl f t = false) ∨ ∃ mb D, vm = .map (some mb) ∧ w.ownsMap (H := Unit) Try.prog 82 (plainElem Try.prog 4) mb cnt D ∧
    ∀ f t kl, keyOf Try.prog 82 (keyV f t) = some kl → D.atKey kl (.lit (.bool false)) = .lit (.bool (bl f t))
def mapBlock : Value → Option Nat
  | .map b => b
  | _ => none
theorem mapOk_stays {w w' : World} {vm : Value} {bl : ByteArray → ByteArray → Bool} {cnt : Nat} (h : mapOk w vm bl cnt) (he : ∀ b, mapBlock vm = some b → w'.heap[b]? = w.heap[b]?) : mapOk w' vm bl cnt := by
  rcases h with h | ⟨mb, D, hv, ⟨es, ck, h1, h2⟩, h3⟩
  · exact .inl h
  · exact .inr ⟨mb, D, hv, ⟨es, ck, (he mb (by rw [hv]; rfl)).trans h1, h2⟩, h3⟩

/-- ρ says what each block is to the network at p: 0 nothing, 1 the network, 2 the row of packets in flight, 3 of the history, 4 of the events, 5 the map, 6 bytes of the history, 7 + id bytes of a packet in flight. -/
structure Rep (ρ : Nat → Nat) (w : World) (p : Nat) (N : Net) : Prop where
  net : w.heap[p]? = some (.cells #[N.vf, N.vh, N.ve, N.vm, .int .i64 N.next] 29 (0, 0))
  f : w.ownsRow 0 81 5 N.vf N.fl.length (N.fl.flatMap Fl.cells)
  h : w.ownsRow 0 35 3 N.vh N.hist.length (N.hist.flatMap Pk.cells)
  e : w.ownsRow 0 59 3 N.ve N.evs.length (N.evs.flatMap Ev.cells)
  m : mapOk w N.vm N.bl N.cnt
  fb : ∀ x ∈ N.fl, ownB w x.p.bv x.p.bs
  hb : ∀ q ∈ N.hist, ownB w q.bv q.bs
  rp : ρ p = 1
  rf : ∀ b, N.vf.ownBlock = some b → ρ b = 2
  rh : ∀ b, N.vh.ownBlock = some b → ρ b = 3
  re : ∀ b, N.ve.ownBlock = some b → ρ b = 4
  rm : ∀ b, mapBlock N.vm = some b → ρ b = 5
  rfb : ∀ x ∈ N.fl, ∀ b, x.p.bv.ownBlock = some b → ρ b = 7 + x.id
  rhb : ∀ q ∈ N.hist, ∀ b, q.bv.ownBlock = some b → ρ b = 6
  far : ∀ b, w.heap.size ≤ b → ρ b = 0
  ids : N.fl.Pairwise (fun x y => x.id < y.id)
  idn : ∀ x ∈ N.fl, x.id < N.next
  fok : ∀ x ∈ N.fl, validB x.p = true
  hok : ∀ q ∈ N.hist, validB q = true

/-- What a call of a network's method leaves alone. -/
structure Step (ρ ρ' : Nat → Nat) (w w' : World) : Prop where
  os : w'.os = w.os
  tape : w'.tape = w.tape
  output : w'.output = w.output
  size : w.heap.size ≤ w'.heap.size
  block : ∀ b, b < w.heap.size → ρ b = 0 → w'.heap[b]? = w.heap[b]?
  role : ∀ b, b < w.heap.size → ρ b = 0 → ρ' b = 0
theorem Step.refl (ρ : Nat → Nat) (w : World) : Step ρ ρ w w := ⟨rfl, rfl, rfl, Nat.le_refl _, fun _ _ _ => rfl, fun _ _ h => h⟩
theorem Step.trans {ρ ρ' ρ'' : Nat → Nat} {w w' w'' : World} (h : Step ρ ρ' w w') (k : Step ρ' ρ'' w' w'') : Step ρ ρ'' w w'' :=
  ⟨k.os.trans h.os, k.tape.trans h.tape, k.output.trans h.output, Nat.le_trans h.size k.size, fun b hb h0 => (k.block b (Nat.lt_of_lt_of_le hb h.size) (h.role b hb h0)).trans (h.block b hb h0),
    fun b hb h0 => k.role b (Nat.lt_of_lt_of_le hb h.size) (h.role b hb h0)⟩
theorem Step.below {ρ ρ' : Nat → Nat} {w w' : World} {B : Nat} (h : Step ρ ρ' w w') (hB : B ≤ w.heap.size) (h0 : ∀ b, b < B → ρ b = 0) : Below B w w' :=
  ⟨h.os, h.tape, h.output, h.size, fun b hb => h.block b (Nat.lt_of_lt_of_le hb hB) (h0 b hb)⟩
theorem Below.step {w w' : World} {ρ : Nat → Nat} (h : Below w.heap.size w w') : Step ρ ρ w w' := ⟨h.os, h.tape, h.output, h.size, fun b hb _ => h.block b hb, fun _ _ h => h⟩

theorem Rep.stays {ρ : Nat → Nat} {w w' : World} {p : Nat} {N : Net} (R : Rep ρ w p N) (hs : w.heap.size ≤ w'.heap.size) (he : ∀ b, ρ b ≠ 0 → w'.heap[b]? = w.heap[b]?) : Rep ρ w' p N where
  net := (he p (by rw [R.rp]; decide)).trans R.net
  f := row_stays R.f fun b hb => he b (by rw [R.rf b hb]; decide)
  h := row_stays R.h fun b hb => he b (by rw [R.rh b hb]; decide)
  e := row_stays R.e fun b hb => he b (by rw [R.re b hb]; decide)
  m := mapOk_stays R.m fun b hb => he b (by rw [R.rm b hb]; decide)
  fb := fun x hx => row_stays (R.fb x hx) fun b hb => he b (by rw [R.rfb x hx b hb]; omega)
  hb := fun q hq => row_stays (R.hb q hq) fun b hb => he b (by rw [R.rhb q hq b hb]; decide)
  rp := R.rp
  rf := R.rf
  rh := R.rh
  re := R.re
  rm := R.rm
  rfb := R.rfb
  rhb := R.rhb
  far := fun b hb => R.far b (Nat.le_trans hs hb)
  ids := R.ids
  idn := R.idn
  fok := R.fok
  hok := R.hok
theorem Rep.lt {ρ : Nat → Nat} {w : World} {p : Nat} {N : Net} (R : Rep ρ w p N) {b : Nat} (h : ρ b ≠ 0) : b < w.heap.size := by
  rcases Nat.lt_or_ge b w.heap.size with h' | h'
  · exact h'
  · exact absurd (R.far b h') h
theorem Rep.below {ρ : Nat → Nat} {w w' : World} {p : Nat} {N : Net} (R : Rep ρ w p N) (hb : Below w.heap.size w w') : Rep ρ w' p N :=
  R.stays hb.size fun b h => hb.block b (R.lt h)

/-- A packet is put in flight. -/
theorem Rep.launched {ρ : Nat → Nat} {w w' : World} {p : Nat} {N : Net} (R : Rep ρ w p N) (os : w'.os = w.os) (tape : w'.tape = w.tape) (out : w'.output = w.output) (hs : w.heap.size ≤ w'.heap.size)
    (q : Pk) (src : Int) (ev : Ev) (vf ve : Value) (hq : validB q = true)
    (hp : w'.heap[p]? = some (.cells #[vf, N.vh, ve, N.vm, .int .i64 ((N.next + 1 : Nat) : Int)] 29 (0, 0)))
    (hf : w'.ownsRow 0 81 5 vf (N.fl.length + 1) (N.fl.flatMap Fl.cells ++ Fl.cells ⟨q, N.next, src⟩))
    (he : w'.ownsRow 0 59 3 ve (N.evs.length + 1) (N.evs.flatMap Ev.cells ++ ev.cells))
    (hb : ownB w' q.bv q.bs)
    (hblk : ∀ b, b < w.heap.size → b ≠ p → ρ b ≠ 2 → ρ b ≠ 4 → w'.heap[b]? = w.heap[b]?)
    (gf : Nat) (hgf : vf.ownBlock = some gf) (hgf1 : ρ gf = 2 ∨ w.heap.size ≤ gf) (hgf2 : gf < w'.heap.size)
    (ge : Nat) (hge : ve.ownBlock = some ge) (hge1 : ρ ge = 4 ∨ w.heap.size ≤ ge) (hge2 : ge < w'.heap.size)
    (hgb : ∀ b, q.bv.ownBlock = some b → w.heap.size ≤ b ∧ b < w'.heap.size ∧ b ≠ gf ∧ b ≠ ge) (hfe : gf ≠ ge) :
    ∃ ρ', Rep ρ' w' p { N with fl := N.fl ++ [⟨q, N.next, src⟩], evs := N.evs ++ [ev], next := N.next + 1, vf := vf, ve := ve } ∧ Step ρ ρ' w w' := by
  have hpl : p < w.heap.size := R.lt (by rw [R.rp]; decide)
  refine ⟨fun b => if b < w.heap.size then ρ b else if b = gf then 2 else if b = ge then 4 else if some b = q.bv.ownBlock then 7 + N.next else 0, ?_, os, tape, out, hs, fun b hb h0 => ?_, fun b hb h0 => ?_⟩
  · have old : ∀ b, ρ b ≠ 0 → (if b < w.heap.size then ρ b else if b = gf then 2 else if b = ge then 4 else if some b = q.bv.ownBlock then 7 + N.next else 0) = ρ b := fun b hb => by rw [if_pos (R.lt hb)]
    constructor
    · exact hp
    · simpa using hf
    · exact row_stays R.h fun b hb => hblk b (R.lt (by rw [R.rh b hb]; decide)) (fun e => by have := R.rh b hb; rw [e, R.rp] at this; cases this) (by rw [R.rh b hb]; decide) (by rw [R.rh b hb]; decide)
    · simpa using he
    · exact mapOk_stays R.m fun b hb => hblk b (R.lt (by rw [R.rm b hb]; decide)) (fun e => by have := R.rm b hb; rw [e, R.rp] at this; cases this) (by rw [R.rm b hb]; decide) (by rw [R.rm b hb]; decide)
    · intro x hx
      rcases List.mem_append.1 hx with hx | hx
      · exact row_stays (R.fb x hx) fun b hb => hblk b (R.lt (by rw [R.rfb x hx b hb]; omega)) (fun e => by have := R.rfb x hx b hb; rw [e, R.rp] at this; omega) (by rw [R.rfb x hx b hb]; omega) (by rw [R.rfb x hx b hb]; omega)
      · simp at hx; subst hx; exact hb
    · exact fun q' hq' => row_stays (R.hb q' hq') fun b hb => hblk b (R.lt (by rw [R.rhb q' hq' b hb]; decide)) (fun e => by have := R.rhb q' hq' b hb; rw [e, R.rp] at this; cases this) (by rw [R.rhb q' hq' b hb]; decide) (by rw [R.rhb q' hq' b hb]; decide)
    · show (if p < w.heap.size then _ else _) = 1
      rw [if_pos hpl, R.rp]
    · intro b hb'
      have hb'' : vf.ownBlock = some b := hb'
      rw [hgf] at hb''
      cases hb''
      rcases hgf1 with h | h
      · show (if gf < w.heap.size then _ else _) = 2
        rw [if_pos (R.lt (by rw [h]; decide)), h]
      · show (if gf < w.heap.size then _ else _) = 2
        rw [if_neg (by omega), if_pos rfl]
    · intro b hb'
      show (if b < w.heap.size then _ else _) = 3
      rw [if_pos (R.lt (by rw [R.rh b hb']; decide)), R.rh b hb']
    · intro b hb'
      have hb'' : ve.ownBlock = some b := hb'
      rw [hge] at hb''
      cases hb''
      rcases hge1 with h | h
      · show (if ge < w.heap.size then _ else _) = 4
        rw [if_pos (R.lt (by rw [h]; decide)), h]
      · show (if ge < w.heap.size then _ else _) = 4
        rw [if_neg (by omega), if_neg (Ne.symm hfe), if_pos rfl]
    · intro b hb'
      show (if b < w.heap.size then _ else _) = 5
      rw [if_pos (R.lt (by rw [R.rm b hb']; decide)), R.rm b hb']
    · intro x hx b hb'
      rcases List.mem_append.1 hx with hx | hx
      · show (if b < w.heap.size then _ else _) = 7 + x.id
        rw [if_pos (R.lt (by rw [R.rfb x hx b hb']; omega)), R.rfb x hx b hb']
      · simp at hx
        subst hx
        have hb'' : q.bv.ownBlock = some b := hb'
        obtain ⟨h1, h2, h3, h4⟩ := hgb b hb''
        show (if b < w.heap.size then _ else _) = 7 + N.next
        rw [if_neg (by omega), if_neg h3, if_neg h4, if_pos hb''.symm]
    · intro q' hq' b hb'
      show (if b < w.heap.size then _ else _) = 6
      rw [if_pos (R.lt (by rw [R.rhb q' hq' b hb']; decide)), R.rhb q' hq' b hb']
    · intro b hb'
      show (if b < w.heap.size then _ else _) = 0
      rw [if_neg (by omega), if_neg (by omega), if_neg (by omega), if_neg (fun e => by have := (hgb b e.symm).2.1; omega)]
    · show (N.fl ++ [(⟨q, N.next, src⟩ : Fl)]).Pairwise (fun x y => x.id < y.id)
      rw [List.pairwise_append]
      refine ⟨R.ids, by simp, fun x hx y hy => ?_⟩
      simp at hy
      subst hy
      exact R.idn x hx
    · intro x hx
      rcases List.mem_append.1 hx with hx | hx
      · exact Nat.lt_succ_of_lt (R.idn x hx)
      · simp at hx; subst hx; exact Nat.lt_succ_self _
    · intro x hx
      rcases List.mem_append.1 hx with hx | hx
      · exact R.fok x hx
      · simp at hx; subst hx; exact hq
    · exact R.hok
  · exact hblk b hb (fun e => by rw [e, R.rp] at h0; cases h0) (by omega) (by omega)
  · show (if b < w.heap.size then _ else _) = 0
    rw [if_pos hb, h0]
end Go.Proofs.Ytiindnmelegkgaa

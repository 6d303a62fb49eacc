/- Copy: the clones, and a packet that is laid into the copy. -/
import Derived.Test.YtiindnmelegkgaaC2
import Derived.Shelf.SlMaps.Clone
namespace Go.Proofs.Ytiindnmelegkgaa
open Go.RowKit Go.Shelf
set_option linter.unusedSimpArgs false
set_option linter.unusedVariables false

theorem clone45x (w : World) (v : Value) (evs : List Ev) (hown : w.ownsRow 0 59 3 v evs.length (evs.flatMap Ev.cells)) (hn : evs.length ≤ 1073741824) :
    ∃ v' w', w'.ownsRow 0 59 3 v' evs.length (evs.flatMap Ev.cells) ∧ (∀ b, v'.ownBlock = some b → w.heap.size ≤ b) ∧ Below w.heap.size w w' ∧ Calls Try.prog 45 #[v] w fun e w'' => e = .returned v' ∧ w' = w'' := by
  have q := eqNil26
  rcases hown.2 with ⟨rfl, h0⟩ | ⟨g, cap, cur, rfl, _⟩
  · refine ⟨_, w, hown, by simp [Value.ownBlock], Below.refl _ _, ?_⟩
    clear hown
    go_enter Try.func45, Try.ntmps45
    go_wp2
    go_ret
    exact ⟨rfl, rfl⟩
  · obtain ⟨v', w', hrun, ho, hb⟩ := clone_run w 26 59 _ 3 24 u26 info59 rfl (by decide) (by decide) g evs.length cap _ hown (fun u hu => by
      obtain ⟨x, _, hu⟩ := List.mem_flatMap.1 hu
      exact ev_one x u hu) hn
    refine ⟨v', w', row_mono ho, fun b hb => (ho.lt b hb).1, hb, ?_⟩
    have HR := Lib.hid hrun
    clear hrun ho hb hown
    generalize evs.length = n at *
    go_enter Try.func45, Try.ntmps45
    go_wp2_with (at_builtin; refine wpList_append_run rfl (.tmp 5) (.tmp 6) 26 rfl _ _ rfl rfl HR.out ?_)
    go_ret
    exact ⟨rfl, rfl⟩

set_option maxHeartbeats 1000000 in
theorem mclone_nil (w : World) : Calls Try.prog 54 #[.map none] w fun e w' => e = .returned (.map none) ∧ w = w' := by
  have hq := fun w => run_eql_map_nil_sl (P := Try.prog) w 27 _ _ none u27
  go_enter Try.func54, Try.ntmps54
  go_wp2
  go_ret
  exact ⟨rfl, rfl⟩
set_option maxHeartbeats 1000000 in
set_option maxRecDepth 100000 in
theorem mclone_some (w : World) (b : Nat) (es : Array MapEntry) (clock : Nat) (hb : w.heap[b]? = some (.map es clock)) : Calls Try.prog 54 #[.map (some b)] w fun e w' => e = .returned (.map (some w.heap.size)) ∧ w.alloc (.map es clock) = w' := by
  have hq := fun w => run_eql_map_nil_sl (P := Try.prog) w 27 _ _ (some b) u27
  go_enter Try.func54, Try.ntmps54
  go_wp2
  rw [run_callFunc_extern Try.func71 (by kernel_rfl) (by kernel_rfl) (by kernel_rfl) (e := Extern.MapsClone.clone) (by kernel_rfl), run_maps_clone_sl w 27 hb]
  simp only [Result.andThen]
  rw [Oper.upon_value]
  go_wp2
  rw [run_typeAssert_map_sl _ 27 20 _ _ _ u27]
  simp only [Result.andThen]
  rw [Oper.upon_value]
  go_wp2
  go_ret
  exact ⟨rfl, rfl⟩
theorem mclone54 (w : World) (vm : Value) (bl : ByteArray → ByteArray → Bool) (cnt : Nat) (h : mapOk w vm bl cnt) :
    ∃ v' w', mapOk w' v' bl cnt ∧ (∀ b, mapBlock v' = some b → w.heap.size ≤ b ∧ b < w'.heap.size) ∧ (∃ o, v' = .map o) ∧ Below w.heap.size w w' ∧ Calls Try.prog 54 #[vm] w fun e w'' => e = .returned v' ∧ w' = w'' := by
  rcases h with ⟨rfl, hb⟩ | ⟨mb, D, rfl, ⟨es, ck, h1, h2⟩, hD⟩
  · exact ⟨.map none, w, .inl ⟨rfl, hb⟩, by simp [mapBlock], ⟨_, rfl⟩, Below.refl _ _, mclone_nil w⟩
  · refine ⟨.map (some w.heap.size), w.alloc (.map es ck), .inr ⟨w.heap.size, D, rfl, ⟨es, ck, new_at rfl, h2⟩, hD⟩, fun b hb => ?_, ⟨_, rfl⟩, (Below.refl _ _).alloc (Nat.le_refl _) _, mclone_some w mb es ck h1⟩
    simp [mapBlock] at hb
    subst hb
    simp

/-- A packet is laid into a network that is being made. -/
theorem Rep.pushed {ρ : Nat → Nat} {w w' : World} {p : Nat} {N : Net} (R : Rep ρ w p N) (hs : w.heap.size ≤ w'.heap.size)
    (q : Pk) (id : Nat) (src : Int) (vf : Value) (hq : validB q = true) (hid : ∀ x ∈ N.fl, x.id < id) (hidn : id < N.next)
    (hp : w'.heap[p]? = some (.cells #[vf, N.vh, N.ve, N.vm, .int .i64 N.next] 29 (0, 0)))
    (hf : w'.ownsRow 0 81 5 vf (N.fl.length + 1) (N.fl.flatMap Fl.cells ++ Fl.cells ⟨q, id, src⟩))
    (hb : ownB w' q.bv q.bs)
    (hblk : ∀ b, b < w.heap.size → b ≠ p → ρ b ≠ 2 → w'.heap[b]? = w.heap[b]?)
    (gf : Nat) (hgf : vf.ownBlock = some gf) (hgf1 : ρ gf = 2 ∨ w.heap.size ≤ gf) (hgf2 : gf < w'.heap.size)
    (hgb : ∀ b, q.bv.ownBlock = some b → w.heap.size ≤ b ∧ b < w'.heap.size ∧ b ≠ gf) :
    ∃ ρ', Rep ρ' w' p { N with fl := N.fl ++ [⟨q, id, src⟩], vf := vf } ∧ (∀ b, ρ' b ≠ 0 → ρ b ≠ 0 ∨ w.heap.size ≤ b) := by
  have hpl : p < w.heap.size := R.lt (by rw [R.rp]; decide)
  refine ⟨fun b => if b < w.heap.size then ρ b else if b = gf then 2 else if some b = q.bv.ownBlock then 7 + id else 0, ?_, fun b h => ?_⟩
  · have old : ∀ b, ρ b ≠ 0 → (if b < w.heap.size then ρ b else if b = gf then 2 else if some b = q.bv.ownBlock then 7 + id else 0) = ρ b := fun b hb => by rw [if_pos (R.lt hb)]
    constructor
    · exact hp
    · simpa using hf
    · exact row_stays R.h fun b hb => hblk b (R.lt (by rw [R.rh b hb]; decide)) (fun e => by have := R.rh b hb; rw [e, R.rp] at this; cases this) (by rw [R.rh b hb]; decide)
    · exact row_stays R.e fun b hb => hblk b (R.lt (by rw [R.re b hb]; decide)) (fun e => by have := R.re b hb; rw [e, R.rp] at this; cases this) (by rw [R.re b hb]; decide)
    · exact mapOk_stays R.m fun b hb => hblk b (R.lt (by rw [R.rm b hb]; decide)) (fun e => by have := R.rm b hb; rw [e, R.rp] at this; cases this) (by rw [R.rm b hb]; decide)
    · intro x hx
      rcases List.mem_append.1 hx with hx | hx
      · exact row_stays (R.fb x hx) fun b hb => hblk b (R.lt (by rw [R.rfb x hx b hb]; omega)) (fun e => by have := R.rfb x hx b hb; rw [e, R.rp] at this; omega) (by rw [R.rfb x hx b hb]; omega)
      · simp at hx; subst hx; exact hb
    · exact fun q' hq' => row_stays (R.hb q' hq') fun b hb => hblk b (R.lt (by rw [R.rhb q' hq' b hb]; decide)) (fun e => by have := R.rhb q' hq' b hb; rw [e, R.rp] at this; cases this) (by rw [R.rhb q' hq' b hb]; decide)
    · show (if p < w.heap.size then _ else _) = 1
      rw [if_pos hpl, R.rp]
    · intro b hb'
      have hb'' : vf.ownBlock = some b := hb'
      rw [hgf] at hb''
      cases hb''
      rcases hgf1 with h | h
      · show (if gf < w.heap.size then _ else _) = 2
        rw [if_pos (R.lt (by rw [h]; decide)), h]
      · show (if gf < w.heap.size then _ else _) = 2
        rw [if_neg (by omega), if_pos rfl]
    · intro b hb'
      show (if b < w.heap.size then _ else _) = 3
      rw [if_pos (R.lt (by rw [R.rh b hb']; decide)), R.rh b hb']
    · intro b hb'
      show (if b < w.heap.size then _ else _) = 4
      rw [if_pos (R.lt (by rw [R.re b hb']; decide)), R.re b hb']
    · intro b hb'
      show (if b < w.heap.size then _ else _) = 5
      rw [if_pos (R.lt (by rw [R.rm b hb']; decide)), R.rm b hb']
    · intro x hx b hb'
      rcases List.mem_append.1 hx with hx | hx
      · show (if b < w.heap.size then _ else _) = 7 + x.id
        rw [if_pos (R.lt (by rw [R.rfb x hx b hb']; omega)), R.rfb x hx b hb']
      · simp at hx
        subst hx
        have hb'' : q.bv.ownBlock = some b := hb'
        obtain ⟨h1, h2, h3⟩ := hgb b hb''
        show (if b < w.heap.size then _ else _) = 7 + id
        rw [if_neg (by omega), if_neg h3, if_pos hb''.symm]
    · intro q' hq' b hb'
      show (if b < w.heap.size then _ else _) = 6
      rw [if_pos (R.lt (by rw [R.rhb q' hq' b hb']; decide)), R.rhb q' hq' b hb']
    · intro b hb'
      show (if b < w.heap.size then _ else _) = 0
      rw [if_neg (by omega), if_neg (by omega), if_neg (fun e => by have := (hgb b e.symm).2.1; omega)]
    · show (N.fl ++ [(⟨q, id, src⟩ : Fl)]).Pairwise (fun x y => x.id < y.id)
      rw [List.pairwise_append]
      refine ⟨R.ids, by simp, fun x hx y hy => ?_⟩
      simp at hy
      subst hy
      exact hid x hx
    · intro x hx
      rcases List.mem_append.1 hx with hx | hx
      · exact R.idn x hx
      · simp at hx; subst hx; exact hidn
    · intro x hx
      rcases List.mem_append.1 hx with hx | hx
      · exact R.fok x hx
      · simp at hx; subst hx; exact hq
    · exact R.hok
  · show ρ b ≠ 0 ∨ _
    by_cases hb' : b < w.heap.size
    · left
      have h' : (if b < w.heap.size then ρ b else if b = gf then 2 else if some b = q.bv.ownBlock then 7 + id else 0) ≠ 0 := h
      rw [if_pos hb'] at h'
      exact h'
    · right; omega

/-- A network without packets in flight, over the history's bytes of another. -/
theorem Rep.bare {w : World} {B p : Nat} {N : Net} {vh ve vm : Value} (hp : w.heap[p]? = some (.cells #[.slice none 0 0, vh, ve, vm, .int .i64 N.next] 29 (0, 0)))
    (hh : w.ownsRow 0 35 3 vh N.hist.length (N.hist.flatMap Pk.cells)) (he : w.ownsRow 0 59 3 ve N.evs.length (N.evs.flatMap Ev.cells)) (hm : mapOk w vm N.bl N.cnt) (hb : ∀ q ∈ N.hist, ownB w q.bv q.bs) (hok : ∀ q ∈ N.hist, validB q = true)
    (hbl : ∀ q ∈ N.hist, ∀ b, q.bv.ownBlock = some b → b < B) (s1 s2 : Nat) (lh : ∀ b, vh.ownBlock = some b → B ≤ b ∧ b < s1) (le : ∀ b, ve.ownBlock = some b → s1 ≤ b ∧ b < s2) (lm : ∀ b, mapBlock vm = some b → s2 ≤ b ∧ b < p) (h01 : B ≤ s1) (h12 : s1 ≤ s2) (h23 : s2 ≤ p) :
    ∃ ρ, Rep ρ w p ⟨[], N.hist, N.evs, N.bl, N.cnt, N.next, .slice none 0 0, vh, ve, vm⟩ ∧ (∀ b, ρ b ≠ 0 → B ≤ b ∨ ∃ q ∈ N.hist, q.bv.ownBlock = some b) := by
  classical
  have hpl := (Array.getElem?_eq_some_iff.1 hp).1
  refine ⟨fun b => if b < B then (if ∃ q ∈ N.hist, q.bv.ownBlock = some b then 6 else 0) else if b = p then 1 else if vh.ownBlock = some b then 3 else if ve.ownBlock = some b then 4 else if mapBlock vm = some b then 5 else 0, ?_, fun b h => ?_⟩
  · constructor
    · exact hp
    · exact World.ownsRow_nil _ _ _ _
    · exact hh
    · exact he
    · exact hm
    · simp
    · exact hb
    · show (if p < B then _ else _) = 1
      rw [if_neg (by omega), if_pos rfl]
    · intro b hb'; cases hb'
    · intro b hb'
      have hb'' : vh.ownBlock = some b := hb'
      have := lh b hb''
      show (if b < B then _ else _) = 3
      rw [if_neg (by omega), if_neg (by omega), if_pos hb'']
    · intro b hb'
      have hb'' : ve.ownBlock = some b := hb'
      have := le b hb''
      show (if b < B then _ else _) = 4
      rw [if_neg (by omega), if_neg (by omega), if_neg (fun e => by have := lh b e; omega), if_pos hb'']
    · intro b hb'
      have hb'' : mapBlock vm = some b := hb'
      have := lm b hb''
      show (if b < B then _ else _) = 5
      rw [if_neg (by omega), if_neg (by omega), if_neg (fun e => by have := lh b e; omega), if_neg (fun e => by have := le b e; omega), if_pos hb'']
    · simp
    · intro q hq b hb'
      show (if b < B then _ else _) = 6
      rw [if_pos (hbl q hq b hb'), if_pos ⟨q, hq, hb'⟩]
    · intro b hb'
      have h1 : ∀ c, vh.ownBlock = some c → c < w.heap.size := fun c hc => (hh.lt c hc).2
      show (if b < B then _ else _) = 0
      rw [if_neg (by omega), if_neg (by omega), if_neg (fun e => by have := lh b e; omega), if_neg (fun e => by have := le b e; omega), if_neg (fun e => by have := lm b e; omega)]
    · exact List.Pairwise.nil
    · simp
    · simp
    · exact hok
  · by_cases hB : b < B
    · right
      have h' : (if b < B then (if ∃ q ∈ N.hist, q.bv.ownBlock = some b then 6 else 0) else if b = p then 1 else if vh.ownBlock = some b then 3 else if ve.ownBlock = some b then 4 else if mapBlock vm = some b then 5 else 0) ≠ 0 := h
      rw [if_pos hB] at h'
      by_cases hx : ∃ q ∈ N.hist, q.bv.ownBlock = some b
      · exact hx
      · rw [if_neg hx] at h'; exact absurd rfl h'
    · left; omega
end Go.Proofs.Ytiindnmelegkgaa

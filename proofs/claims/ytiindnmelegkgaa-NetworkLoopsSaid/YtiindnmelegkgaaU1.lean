/- The methods of the program's network, each in one word. -/
import Derived.Test.YtiindnmelegkgaaP6
import Derived.Test.YtiindnmelegkgaaAbsM
namespace Go.Proofs.Ytiindnmelegkgaa
open Go.RowKit Go.Shelf
set_option linter.unusedSimpArgs false
set_option linter.unusedVariables false

/-! ### The specs -/
def Abs.find (A : Abs) (id : Int) : Option (Nat × AFl) := (A.fl.findIdx? fun x => decide ((x.id : Int) = id)).bind fun i => A.fl[i]?.map fun x => (i, x)
theorem find_some {A : Abs} {id : Int} {y : Nat × AFl} (h : A.find id = some y) : AHits A id y.1 y.2 := by
  unfold Abs.find at h
  obtain ⟨i, hi, h2⟩ := Option.bind_eq_some_iff.1 h
  obtain ⟨x, hx, rfl⟩ := Option.map_eq_some_iff.1 h2
  obtain ⟨hl, hp, _⟩ := List.findIdx?_eq_some_iff_getElem.1 hi
  have : A.fl[i] = x := Option.some.inj ((List.getElem?_eq_getElem hl).symm.trans hx)
  rw [this] at hp
  exact ⟨hx, by simpa using hp⟩
theorem find_none {A : Abs} {id : Int} (h : A.find id = none) : AMisses A id := by
  intro x hx e
  unfold Abs.find at h
  rcases hi : A.fl.findIdx? fun x => decide ((x.id : Int) = id) with _ | i
  · rw [List.findIdx?_eq_none_iff] at hi
    have := hi x hx
    simp [e] at this
  · rw [hi] at h
    obtain ⟨hl, -⟩ := List.findIdx?_eq_some_iff_getElem.1 hi
    simp [List.getElem?_eq_getElem hl] at h

def Abs.put (A : Abs) (p : APk) (src kind frm : Int) : Abs := { A with fl := A.fl ++ [⟨p.frm, p.to, p.bs, A.next, src⟩], evs := A.evs ++ [⟨kind, A.next, frm⟩], next := A.next + 1 }
def Abs.note (A : Abs) (fl : List AFl) (kind id : Int) : Abs := { A with fl := fl, evs := A.evs ++ [⟨kind, id, -1⟩] }
def Abs.send (A : Abs) (p : APk) : Abs × Int × Int := if validA p = false then (A, 0, 2) else if 64 ≤ A.fl.length ∨ 1024 ≤ A.hist.length then (A, 0, 7) else (({ A with hist := A.hist ++ [p] } : Abs).put p (A.hist.length : Nat) 1 (-1), (A.next : Nat), 0)
def Abs.inject (A : Abs) (p : APk) : Abs × Int × Int := if validA p = false then (A, 0, 2) else if 64 ≤ A.fl.length then (A, 0, 7) else (A.put p (-1) 8 (-1), (A.next : Nat), 0)
def Abs.replay (A : Abs) (id : Int) : Abs × Int × Int := if id < 0 ∨ (A.hist.length : Int) ≤ id then (A, 0, 9) else if 64 ≤ A.fl.length then (A, 0, 7) else (A.put (A.hist.getD id.toNat zeroA) id 7 id, (A.next : Nat), 0)
def Abs.dup (A : Abs) (id : Int) : Abs × Int × Int :=
  match A.find id with
  | none => (A, 0, 9)
  | some x => if 64 ≤ A.fl.length then (A, 0, 7) else (A.put ⟨x.2.frm, x.2.to, x.2.bs⟩ x.2.src 4 id, (A.next : Nat), 0)
def Abs.deliver (A : Abs) (id : Int) : Abs × APk × Int :=
  match A.find id with
  | none => (A, zeroA, 9)
  | some x => if A.bl x.2.frm x.2.to then (A, zeroA, 8) else (A.note (A.fl.eraseIdx x.1) 2 x.2.id, ⟨x.2.frm, x.2.to, x.2.bs⟩, 0)
def Abs.drop (A : Abs) (id : Int) : Abs × Int :=
  match A.find id with
  | none => (A, 9)
  | some x => (A.note (A.fl.eraseIdx x.1) 3 x.2.id, 0)
def Abs.alter (A : Abs) (id off m : Int) : Abs × Int :=
  if m = 0 then (A, 2) else
  match A.find id with
  | none => (A, 9)
  | some x => if off < 0 ∨ (x.2.bs.length : Int) ≤ off then (A, 3) else (A.note (A.fl.set x.1 { x.2 with bs := x.2.bs.modify off.toNat (fun y => bits .xor .u8 y m) }) 5 id, 0)
def Abs.redirect (A : Abs) (id : Int) (to : ByteArray) : Abs × Int :=
  if hostB to = false then (A, 2) else
  match A.find id with
  | none => (A, 9)
  | some x => (A.note (A.fl.set x.1 { x.2 with to := to }) 6 id, 0)
def Abs.block (A : Abs) (f t : ByteArray) : Abs × Int := if (hostB f && hostB t) = false then (A, 2) else ({ A with bl := fun a b => decide (a = f ∧ b = t) || A.bl a b, cnt := A.cnt + 1 }, 0)
def Abs.unblock (A : Abs) (f t : ByteArray) : Abs × Int := if (hostB f && hostB t) = false then (A, 2) else ({ A with bl := fun a b => !decide (a = f ∧ b = t) && A.bl a b }, 0)
def Abs.source (A : Abs) (id : Int) : Int × Int :=
  match A.find id with
  | none => (0, 9)
  | some x => (x.2.src, 0)
def Abs.genu (A : Abs) (x : AFl) : Bool := decide (0 ≤ x.src) && sameA x (A.hist.getD x.src.toNat zeroA)
def Abs.genuine (A : Abs) (id : Int) : Bool × Int :=
  match A.find id with
  | none => (false, 9)
  | some x => (A.genu x.2, 0)

/-! ### The words -/
/-- What a call leaves: a network that reads as A'. -/
def NNext (ρ : Nat → Nat) (w : World) (p : Nat) (N : Net) (A' : Abs) (w' : World) : Prop := ∃ ρ' N', Rep ρ' w' p N' ∧ N'.abs = A' ∧ N.hist <+: N'.hist ∧ Step ρ ρ' w w'
def NOut1 (ρ : Nat → Nat) (w : World) (p : Nat) (N : Net) (r : Abs × Int × Int) (e : Ending) (w' : World) : Prop := e = .returned (.tuple #[.int .i64 r.2.1, .int .i64 r.2.2]) ∧ NNext ρ w p N r.1 w'
def NOut0 (ρ : Nat → Nat) (w : World) (p : Nat) (N : Net) (r : Abs × Int) (e : Ending) (w' : World) : Prop := e = .returned (.int .i64 r.2) ∧ NNext ρ w p N r.1 w'
def NOutP (ρ : Nat → Nat) (w : World) (p : Nat) (N : Net) (r : Abs × APk × Int) (e : Ending) (w' : World) : Prop :=
  ∃ (ρ' : Nat → Nat) (N' : Net) (q : Pk), e = .returned (.tuple #[q.val, .int .i64 r.2.2]) ∧ Rep ρ' w' p N' ∧ N'.abs = r.1 ∧ N.hist <+: N'.hist ∧ Step ρ ρ' w w' ∧ q.abs = r.2.1 ∧ ownB w' q.bv q.bs ∧ (∀ b, q.bv.ownBlock = some b → ρ' b = 0) ∧ q.bs.length ≤ 65536

section
variable {ρ : Nat → Nat} {w : World} {p : Nat} {N : Net}
theorem NNext.same {w' : World} (R : Rep ρ w p N) (hb : Below w.heap.size w w') : NNext ρ w p N N.abs w' := ⟨ρ, N, R.below hb, rfl, List.prefix_rfl, Below.step hb⟩
theorem tiny_of (S : Small N) : Tiny N.abs := ⟨S.next, S.evs, by simpa [Net.abs] using S.fl, by simpa [Net.abs] using S.hist, S.cnt⟩
theorem abs_fl : N.abs.fl.length = N.fl.length := by simp [Net.abs]
theorem abs_hist : N.abs.hist.length = N.hist.length := by simp [Net.abs]

theorem send_all (R : Rep ρ w p N) (S : Small N) (q : Pk) (hr : rdB w q.bv q.bs) (hq0 : q.bs ≠ [] → ∀ b, q.bv.ownBlock = some b → ρ b = 0) :
    Calls Try.prog 10 #[.pointer (some ⟨p, 0, none⟩), q.val] w (NOut1 ρ w p N (N.abs.send q.abs)) := by
  unfold Abs.send
  rw [validA_abs, abs_fl, abs_hist]
  by_cases hv : validB q = false
  · rw [if_pos hv]
    exact (send_bad q p w hr hv).mono fun e w' ⟨he, hb⟩ => ⟨he, .same R hb⟩
  · rw [if_neg hv]
    have hv' : validB q = true := by simpa using hv
    by_cases hf : 64 ≤ N.fl.length ∨ 1024 ≤ N.hist.length
    · rw [if_pos hf]
      exact (send_full R S q hr hv' hf).mono fun e w' ⟨he, hb⟩ => ⟨he, .same R hb⟩
    · rw [if_neg hf]
      obtain ⟨b1, b2, vh', vf', ve', ρ', w', R', S', call⟩ := send_ok R S q hr hq0 hv' (by omega) (by omega)
      refine call.mono ?_
      rintro e w'' ⟨rfl, rfl⟩
      exact ⟨rfl, ρ', _, R', by simp [Net.abs, Abs.put, Fl.abs, Pk.abs], List.prefix_append _ _, S'⟩
theorem NNext.launched {w' : World} {q : Pk} {src kind frm : Int} (h : Launched ρ w w' p N q src kind frm) : NNext ρ w p N (N.abs.put q.abs src kind frm) w' := by
  obtain ⟨bv', vf', ve', ρ', R', S'⟩ := h
  exact ⟨ρ', _, R', by simp [Net.abs, Abs.put, Fl.abs, Pk.abs], List.prefix_rfl, S'⟩
theorem inject_all (R : Rep ρ w p N) (S : Small N) (q : Pk) (hr : rdB w q.bv q.bs) (hq0 : q.bs ≠ [] → ∀ b, q.bv.ownBlock = some b → ρ b = 0) :
    Calls Try.prog 13 #[.pointer (some ⟨p, 0, none⟩), q.val] w (NOut1 ρ w p N (N.abs.inject q.abs)) := by
  unfold Abs.inject
  rw [validA_abs, abs_fl]
  by_cases hv : validB q = false
  · rw [if_pos hv]
    exact (inject_bad q p w hr hv).mono fun e w' ⟨he, hb⟩ => ⟨he, .same R hb⟩
  · rw [if_neg hv]
    have hv' : validB q = true := by simpa using hv
    by_cases hf : 64 ≤ N.fl.length
    · rw [if_pos hf]
      exact (inject_full R S q hr hv' hf).mono fun e w' ⟨he, hb⟩ => ⟨he, .same R hb⟩
    · rw [if_neg hf]
      exact (inject_ok R S q hr hq0 hv' (by omega)).mono fun e w' ⟨he, hL⟩ => ⟨he, .launched hL⟩
theorem replay_all (R : Rep ρ w p N) (S : Small N) (id : Int) :
    Calls Try.prog 14 #[.pointer (some ⟨p, 0, none⟩), .int .i64 id] w (NOut1 ρ w p N (N.abs.replay id)) := by
  unfold Abs.replay
  rw [abs_fl, abs_hist]
  by_cases hv : id < 0 ∨ (N.hist.length : Int) ≤ id
  · rw [if_pos hv]
    exact (replay_bad R S id hv).mono fun e w' ⟨he, hb⟩ => ⟨he, .same R hb⟩
  · rw [if_neg hv]
    obtain ⟨k, rfl⟩ : ∃ k : Nat, id = k := ⟨id.toNat, by omega⟩
    have hk : k < N.hist.length := by omega
    by_cases hf : 64 ≤ N.fl.length
    · rw [if_pos hf]
      exact (replay_full R S k hk hf).mono fun e w' ⟨he, hb⟩ => ⟨he, .same R hb⟩
    · rw [if_neg hf]
      have hq := List.getElem?_eq_getElem hk
      have hg : N.abs.hist.getD (k : Int).toNat zeroA = N.hist[k].abs := by simp [Net.abs, List.getD, hq]
      rw [hg]
      exact (replay_ok R S k _ hq (by omega)).mono fun e w' ⟨he, hL⟩ => ⟨he, .launched hL⟩
theorem dup_all (R : Rep ρ w p N) (S : Small N) (id : Int) (h1 : -9223372036854775808 ≤ id) (h2 : id ≤ 9223372036854775807) :
    Calls Try.prog 15 #[.pointer (some ⟨p, 0, none⟩), .int .i64 id] w (NOut1 ρ w p N (N.abs.dup id)) := by
  unfold Abs.dup
  rcases hf : N.abs.find id with _ | ⟨i, x⟩
  · exact (dup_miss R S (find_none hf).net h1 h2).mono fun e w' ⟨he, hb⟩ => ⟨he, .same R hb⟩
  · obtain ⟨y, hy, hx⟩ := (find_some hf).net
    dsimp only at hx hy ⊢
    subst hx
    rw [abs_fl]
    by_cases hl : 64 ≤ N.fl.length
    · rw [if_pos hl]
      exact (dup_full R S hy hl).mono fun e w' ⟨he, hb⟩ => ⟨he, .same R hb⟩
    · rw [if_neg hl]
      exact (dup_ok R S hy (by omega)).mono fun e w' ⟨he, hL⟩ => ⟨he, .launched hL⟩
theorem deliver_all (R : Rep ρ w p N) (S : Small N) (id : Int) (h1 : -9223372036854775808 ≤ id) (h2 : id ≤ 9223372036854775807) :
    Calls Try.prog 11 #[.pointer (some ⟨p, 0, none⟩), .int .i64 id] w (NOutP ρ w p N (N.abs.deliver id)) := by
  have Z : ∀ (er : Int) e w', e = Ending.returned (.tuple #[zeroPk, .int .i64 er]) ∧ Below w.heap.size w w' → NOutP ρ w p N (N.abs, zeroA, er) e w' := fun er e w' ⟨he, hb⟩ =>
    ⟨ρ, N, ⟨{ data := #[] }, { data := #[] }, .slice none 0 0, []⟩, he, R.below hb, rfl, List.prefix_rfl, Below.step hb, rfl, World.ownsRow_nil _ _ _ _, by simp [Value.ownBlock], by simp⟩
  unfold Abs.deliver
  rcases hf : N.abs.find id with _ | ⟨i, x⟩
  · exact (deliver_miss R S (find_none hf).net h1 h2).mono fun e w' h => Z 9 e w' h
  · obtain ⟨y, hy, hx⟩ := (find_some hf).net
    dsimp only at hx hy ⊢
    subst hx
    by_cases hl : N.bl y.p.frm y.p.to = true
    · rw [if_pos (show N.abs.bl y.abs.frm y.abs.to = true from hl)]
      exact (deliver_blocked R S hy hl).mono fun e w' h => Z 8 e w' h
    · rw [if_neg (show ¬ N.abs.bl y.abs.frm y.abs.to = true from hl)]
      refine (deliver_ok R S hy (by simpa using hl)).mono ?_
      rintro e w' ⟨rfl, ρ', vf', ve', R', S', O', F'⟩
      exact ⟨ρ', _, y.p, rfl, R', by simp [Net.abs, Abs.note, Fl.abs, map_erase], List.prefix_rfl, S', rfl, O', F', by have h := R.fok y (List.mem_of_getElem? hy.1); simp only [validB, Bool.and_eq_true, decide_eq_true_eq] at h; exact h.2⟩
theorem drop_all (R : Rep ρ w p N) (S : Small N) (id : Int) (h1 : -9223372036854775808 ≤ id) (h2 : id ≤ 9223372036854775807) :
    Calls Try.prog 18 #[.pointer (some ⟨p, 0, none⟩), .int .i64 id] w (NOut0 ρ w p N (N.abs.drop id)) := by
  unfold Abs.drop
  rcases hf : N.abs.find id with _ | ⟨i, x⟩
  · exact (drop_miss R S (find_none hf).net h1 h2).mono fun e w' ⟨he, hb⟩ => ⟨he, .same R hb⟩
  · obtain ⟨y, hy, hx⟩ := (find_some hf).net
    dsimp only at hx hy ⊢
    subst hx
    refine (drop_ok R S hy).mono ?_
    rintro e w' ⟨rfl, ρ', vf', ve', R', S'⟩
    exact ⟨rfl, ρ', _, R', by simp [Net.abs, Abs.note, Fl.abs, map_erase], List.prefix_rfl, S'⟩
theorem alter_all (R : Rep ρ w p N) (S : Small N) (id off m : Int) (h1 : -9223372036854775808 ≤ id) (h2 : id ≤ 9223372036854775807) :
    Calls Try.prog 19 #[.pointer (some ⟨p, 0, none⟩), .int .i64 id, .int .i64 off, .int .u8 m] w (NOut0 ρ w p N (N.abs.alter id off m)) := by
  unfold Abs.alter
  by_cases hm : m = 0
  · rw [if_pos hm]
    subst hm
    exact (alter_zero p id off w).mono fun e w' ⟨he, hb⟩ => ⟨he, .same R (by rw [← hb]; exact Below.refl _ _)⟩
  · rw [if_neg hm]
    have hm' : (m == 0) = false := by simpa using hm
    rcases hf : N.abs.find id with _ | ⟨i, x⟩
    · exact (alter_miss R S off m hm' (find_none hf).net h1 h2).mono fun e w' ⟨he, hb⟩ => ⟨he, .same R hb⟩
    · obtain ⟨y, hy, hx⟩ := (find_some hf).net
      dsimp only at hx hy ⊢
      subst hx
      by_cases ho : off < 0 ∨ (y.p.bs.length : Int) ≤ off
      · rw [if_pos (show off < 0 ∨ (y.abs.bs.length : Int) ≤ off from ho)]
        exact (alter_range R S hy off m hm' ho).mono fun e w' ⟨he, hb⟩ => ⟨he, .same R hb⟩
      · rw [if_neg (show ¬ (off < 0 ∨ (y.abs.bs.length : Int) ≤ off) from ho)]
        obtain ⟨k, rfl⟩ : ∃ k : Nat, off = k := ⟨off.toNat, by omega⟩
        have hk : k < y.p.bs.length := by omega
        refine (alter_ok R S hy k m _ hm' (List.getElem?_eq_getElem hk)).mono ?_
        rintro e w' ⟨rfl, ρ', ve', R', S'⟩
        refine ⟨rfl, ρ', _, R', ?_, List.prefix_rfl, S'⟩
        have hmod : y.abs.bs.modify (k : Int).toNat (fun z => bits .xor .u8 z m) = y.p.bs.set k (bits .xor .u8 y.p.bs[k] m) := by rw [Int.toNat_natCast]; exact modify_set _ _ _ _ (List.getElem?_eq_getElem hk)
        rw [hmod]
        simp [Net.abs, Abs.note, List.map_set, Fl.abs]
theorem redirect_all (R : Rep ρ w p N) (S : Small N) (id : Int) (to : ByteArray) (h1 : -9223372036854775808 ≤ id) (h2 : id ≤ 9223372036854775807) :
    Calls Try.prog 20 #[.pointer (some ⟨p, 0, none⟩), .int .i64 id, .string to] w (NOut0 ρ w p N (N.abs.redirect id to)) := by
  unfold Abs.redirect
  by_cases ht : hostB to = false
  · rw [if_pos ht]
    exact (redirect_bad p id to ht w).mono fun e w' ⟨he, hb⟩ => ⟨he, .same R hb⟩
  · rw [if_neg ht]
    have ht' : hostB to = true := by simpa using ht
    rcases hf : N.abs.find id with _ | ⟨i, x⟩
    · exact (redirect_miss R S to ht' (find_none hf).net h1 h2).mono fun e w' ⟨he, hb⟩ => ⟨he, .same R hb⟩
    · obtain ⟨y, hy, hx⟩ := (find_some hf).net
      dsimp only at hx hy ⊢
      subst hx
      refine (redirect_ok R S hy to ht').mono ?_
      rintro e w' ⟨rfl, ρ', ve', R', S'⟩
      exact ⟨rfl, ρ', _, R', by simp [Net.abs, Abs.note, List.map_set, Fl.abs], List.prefix_rfl, S'⟩
theorem block_all (R : Rep ρ w p N) (S : Small N) (f t : ByteArray) :
    Calls Try.prog 21 #[.pointer (some ⟨p, 0, none⟩), .string f, .string t] w (NOut0 ρ w p N (N.abs.block f t)) := by
  unfold Abs.block
  by_cases h : (hostB f && hostB t) = false
  · rw [if_pos h]
    exact (block_bad p f t h w).mono fun e w' ⟨he, hb⟩ => ⟨he, .same R (by rw [← hb]; exact Below.refl _ _)⟩
  · rw [if_neg h]
    have h' : hostB f = true ∧ hostB t = true := by simpa using h
    refine (block_ok R S f t h'.1 h'.2 (fun a b => decide (a = f ∧ b = t) || N.bl a b) (by intro f' t'; simp)).mono ?_
    rintro e w' ⟨rfl, ρ', vm', R', S'⟩
    exact ⟨rfl, ρ', _, R', rfl, List.prefix_rfl, S'⟩
theorem unblock_all (R : Rep ρ w p N) (S : Small N) (f t : ByteArray) :
    Calls Try.prog 31 #[.pointer (some ⟨p, 0, none⟩), .string f, .string t] w (NOut0 ρ w p N (N.abs.unblock f t)) := by
  unfold Abs.unblock
  by_cases h : (hostB f && hostB t) = false
  · rw [if_pos h]
    exact (unblock_bad p f t h w).mono fun e w' ⟨he, hb⟩ => ⟨he, .same R (by rw [← hb]; exact Below.refl _ _)⟩
  · rw [if_neg h]
    have h' : hostB f = true ∧ hostB t = true := by simpa using h
    refine (unblock_ok R S f t h'.1 h'.2 (fun a b => !decide (a = f ∧ b = t) && N.bl a b) (by intro f' t'; by_cases h1 : f' = f <;> by_cases h2 : t' = t <;> simp [h1, h2])).mono ?_
    rintro e w' ⟨rfl, ρ', vm', R', S'⟩
    exact ⟨rfl, ρ', _, R', rfl, List.prefix_rfl, S'⟩
theorem source_all (R : Rep ρ w p N) (S : Small N) (id : Int) (h1 : -9223372036854775808 ≤ id) (h2 : id ≤ 9223372036854775807) :
    Calls Try.prog 25 #[.pointer (some ⟨p, 0, none⟩), .int .i64 id] w fun e w' => e = .returned (.tuple #[.int .i64 (N.abs.source id).1, .int .i64 (N.abs.source id).2]) ∧ Below w.heap.size w w' := by
  unfold Abs.source
  rcases hf : N.abs.find id with _ | ⟨i, x⟩
  · exact source_miss R S (find_none hf).net h1 h2
  · obtain ⟨y, hy, hx⟩ := (find_some hf).net
    dsimp only at hx hy ⊢
    subst hx
    exact source_hit R S hy
theorem genuine_all (R : Rep ρ w p N) (S : Small N) (id : Int) (hs : ∀ x ∈ N.fl, x.src < N.hist.length) (h1 : -9223372036854775808 ≤ id) (h2 : id ≤ 9223372036854775807) :
    Calls Try.prog 16 #[.pointer (some ⟨p, 0, none⟩), .int .i64 id] w fun e w' => e = .returned (.tuple #[.bool (N.abs.genuine id).1, .int .i64 (N.abs.genuine id).2]) ∧ Below w.heap.size w w' := by
  unfold Abs.genuine
  rcases hf : N.abs.find id with _ | ⟨i, x⟩
  · exact genuine_miss R S (find_none hf).net h1 h2
  · obtain ⟨y, hy, hx⟩ := (find_some hf).net
    dsimp only at hx hy ⊢
    subst hx
    unfold Abs.genu
    by_cases hn : y.src < 0
    · have : decide ((0 : Int) ≤ y.abs.src) = false := decide_eq_false (by show ¬ (0 : Int) ≤ y.src; omega)
      rw [this, Bool.false_and]
      exact genuine_neg R S hy hn
    · obtain ⟨k, hk⟩ : ∃ k : Nat, y.src = k := ⟨y.src.toNat, by omega⟩
      have hlt := hs y (List.mem_of_getElem? hy.1)
      have hkl : k < N.hist.length := by omega
      have hq := List.getElem?_eq_getElem hkl
      have hg : N.abs.hist.getD y.abs.src.toNat zeroA = N.hist[k].abs := by simp [Net.abs, List.getD, Fl.abs, hk, hq]
      have hp : decide ((0 : Int) ≤ y.abs.src) = true := decide_eq_true (by show (0 : Int) ≤ y.src; omega)
      rw [hp, Bool.true_and, hg]
      exact genuine_src R S hy k hk _ hq
end
end Go.Proofs.Ytiindnmelegkgaa

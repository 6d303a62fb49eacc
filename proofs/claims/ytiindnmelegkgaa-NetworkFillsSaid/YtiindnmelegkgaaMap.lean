/- The map of blocked pairs. -/
import Derived.Test.YtiindnmelegkgaaRemove
import Derived.DeepKeys4
import Derived.Maps.Keyed
import Derived.Maps.Views
namespace Go.Proofs.Ytiindnmelegkgaa
open Go.RowKit
set_option linter.unusedSimpArgs false
set_option linter.unusedVariables false

theorem laidOut : laidOutB Try.prog = true := by kernel_rfl
theorem row82 : (82 : TypeId) < Try.prog.types.size := of_decide_eq_true (by kernel_rfl)
theorem u82 : Try.prog.underlying 82 = some (.array 2 9) := by kernel_rfl
theorem u9 : Try.prog.underlying 9 = some .string := by kernel_rfl
theorem u27 : Try.prog.underlying 27 = some (.map 82 4) := by kernel_rfl
theorem u4 : Try.prog.underlying 4 = some .bool := by kernel_rfl
theorem wide82 : (match Try.prog.underlying 82 with | some (.array _ _) | some (.struct _) => true | _ => false) = true := by rw [u82]
theorem kta82 : Try.prog.keyTypeAt 2 82 = true := by kernel_rfl
theorem kt82 : Try.prog.keyType 82 = true := by kernel_rfl
set_option maxRecDepth 100000 in
theorem law82 : WideMaps.KeyLaw Try.prog 82 := deep_law_laid laidOut (m := 2) (by omega) row82 kta82 wide82
theorem K82 : Maps.Keyed Try.prog 82 := Maps.Keyed.of_law law82
theorem cells82 : Try.prog.cellsOf 82 = 2 := by kernel_rfl
theorem cells9 : Try.prog.cellsOf 9 = 1 := by kernel_rfl
theorem size_types : ∃ m, Try.prog.types.size = m + 1 := ⟨132, by kernel_rfl⟩
theorem keyV_key (f t : ByteArray) (hf : f.size ≤ maxLen) (ht : t.size ≤ maxLen) : ∃ kl, keyOf Try.prog 82 (keyV f t) = some kl := by
  obtain ⟨m, hm⟩ := size_types
  unfold keyOf keyV
  rw [u82]
  simp [Value.formed, u82, cells82, hm, Program.keyLits, u9, cells9, hf, ht, Value.cells, kt82, show List.range 2 = [0, 1] from rfl]

theorem keyV_inj {f t f' t' : ByteArray} {kl : Lit} (h : keyOf Try.prog 82 (keyV f t) = some kl) (h' : keyOf Try.prog 82 (keyV f' t') = some kl) : f = f' ∧ t = t' := by
  have e := K82.inj h h'
  simpa [keyV] using e
theorem zero4 (w : World) : (zeroValue 4).run Try.prog w = .ok (.bool false) w := by kernel_rfl

theorem plain_bool_inv {v : Value} {x : Bool} {ps : List MemPlace} (h : plainElem (H := Unit) Try.prog 4 v = some (.lit (.bool x), ps)) : v = .bool x := by
  unfold plainElem at h
  rw [u4] at h
  cases v <;> simp at h
  rw [h.1]

/-- What a look-up gives. -/
theorem lookup_run {w : World} {vm : Value} {bl : ByteArray → ByteArray → Bool} {cnt : Nat} (h : mapOk w vm bl cnt) (f t : ByteArray) (hf : f.size ≤ maxLen) (ht : t.size ≤ maxLen) :
    (Instr.lookup 27 vm (keyV f t) false).run Try.prog w = .ok (.bool (bl f t)) w := by
  obtain ⟨kl, hk⟩ := keyV_key f t hf ht
  rcases h with ⟨rfl, hb⟩ | ⟨mb, D, rfl, hown, hD⟩
  · rw [hb f t]
    have hfind := K82.find w hk [] (by simp)
    rcases hfind with ⟨h1, _⟩ | ⟨j, e, _, h2, _⟩
    · simp [Instr.lookup, run_underlying u27, K82.check w _ hk, h1, zero4, Result.andThen]
    · simp at h2
  · obtain ⟨v, ps, hrun, hv⟩ := hown.lookup K82 u27 (zero4 w) (plainElem_bool u4 false) hk
    rw [hD f t kl hk] at hv
    rw [hrun, plain_bool_inv hv]

/-- A pair is blocked. -/
theorem mapOk_put {w : World} {vm : Value} {bl : ByteArray → ByteArray → Bool} {cnt : Nat} {mb : Nat} (h : mapOk w (.map (some mb)) bl cnt) (hc : cnt < maxLen) (f t : ByteArray) (hf : f.size ≤ maxLen) (ht : t.size ≤ maxLen) (bl' : ByteArray → ByteArray → Bool)
    (hbl : ∀ f' t', bl' f' t' = true ↔ (f' = f ∧ t' = t) ∨ bl f' t' = true) :
    ∃ w', (Instr.mapUpdate 27 (.map (some mb)) (keyV f t) (.bool true)).run Try.prog w = .ok () w' ∧ mapOk w' (.map (some mb)) bl' (cnt + 1) ∧ w.grownBy w' (some mb) := by
  obtain ⟨kl, hk⟩ := keyV_key f t hf ht
  rcases h with ⟨h, _⟩ | ⟨mb', D, h, hown, hD⟩
  · cases h
  · cases h
    obtain ⟨w', hrun, hown', hg⟩ := hown.update K82 u27 hc hk (plainElem_bool u4 true)
    refine ⟨w', hrun, .inr ⟨mb, _, rfl, hown', fun f' t' kl' hk' => ?_⟩, hg⟩
    have hm : Maps.IsMap D := by
      obtain ⟨es, ck, _, _, _, rfl⟩ := hown
      exact ⟨_, rfl⟩
    by_cases he : f' = f ∧ t' = t
    · obtain ⟨rfl, rfl⟩ := he
      rw [hk] at hk'
      cases hk'
      rw [Maps.atKey_put_same hm (K82.key hk), (hbl f' t').2 (.inl ⟨rfl, rfl⟩)]
    · have hne : kl' ≠ kl := fun e => he (keyV_inj (e ▸ hk') hk)
      rw [Maps.atKey_put_other hne, hD f' t' kl' hk']
      have : bl' f' t' = bl f' t' := by
        rw [Bool.eq_iff_iff, hbl]
        exact ⟨fun h => h.resolve_left he, fun h => .inr h⟩
      rw [this]
theorem mapOk_made (w : World) : mapOk (w.alloc (.map #[] 0)) (.map (some w.heap.size)) (fun _ _ => false) 0 := by
  refine .inr ⟨_, _, rfl, World.ownsMap_made w Try.prog 82 (plainElem Try.prog 4), fun f t kl hk => ?_⟩
  rfl
theorem mapOk_mono {w : World} {vm : Value} {bl : ByteArray → ByteArray → Bool} {cnt cnt' : Nat} (h : mapOk w vm bl cnt) (hc : cnt ≤ cnt') : mapOk w vm bl cnt' := by
  rcases h with h | ⟨mb, D, h1, h2, h3⟩
  · exact .inl h
  · exact .inr ⟨mb, D, h1, h2.mono hc, h3⟩
end Go.Proofs.Ytiindnmelegkgaa

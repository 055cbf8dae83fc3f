/- Equality of arrays. No program in sight. -/
import Derived.Test.YtjinhojlnaplaaaDoorArr
import Derived.Laws.StructEq
namespace Go.Proofs.YtjinhojlnaplaaaDoor
set_option maxRecDepth 100000
namespace Sh
open Go.RowKit
variable {P : Program} {w : World}
theorem forIn_eq {n : Nat} (xs ys : List Int) (hx : xs.length = n) (hy : ys.length = n) (f : Nat → Option Bool × Unit → Sem (ForInStep (Option Bool × Unit)))
    (hf : ∀ i (h : i < n), (f i (none, ())).run P w = .ok (if xs[i] = ys[i] then .yield (none, ()) else .done (some false, ())) w) :
    ∀ (m s : Nat), s + m = n → xs.take s = ys.take s → (forIn (List.range' s m) ((none, ()) : Option Bool × Unit) f).run P w = .ok (if xs = ys then (none, ()) else (some false, ())) w
  | 0, s, hs, ht => by
    have : xs = ys := by rwa [List.take_of_length_le (by omega), List.take_of_length_le (by omega)] at ht
    simp [this]
  | m + 1, s, hs, ht => by
    rw [List.range'_succ, List.forIn_cons]
    simp only [Sem.run_bind, hf s (by omega), Result.andThen_ok]
    by_cases h : xs[s]'(by omega) = ys[s]'(by omega)
    · rw [if_pos h]
      refine forIn_eq xs ys hx hy f hf m (s + 1) (by omega) ?_
      rw [List.take_succ_eq_append_getElem (by omega), List.take_succ_eq_append_getElem (by omega), ht, h]
    · rw [if_neg h]
      have hne : xs ≠ ys := fun e => h (by subst e; rfl)
      simp [hne]
theorem equal_arr {t e : TypeId} {n : Nat} {k : IntKind} {i : TypeInfo} (d : Nat) (ht : P.underlying t = some (.array n e)) (he : P.underlying e = some (.int k)) (hi : P.info? e = some i) (hsz : i.size = 1) (hag : ∀ w, (isAgg e).run P w = .ok false w) (xs ys : List Int) (hx : xs.length = n) (hy : ys.length = n) :
    (Op.equalIn (d + 2) t (.agg (xs.map (Value.int k)).toArray) (.agg (ys.map (Value.int k)).toArray)).run P w = .ok (decide (xs = ys)) w := by
  have hs : (sizeOf e).run P w = .ok 1 w := by simp [sizeOf, typeInfo, hi, hsz]
  rw [Op.equalIn]
  simp only [Sem.run_bind, run_underlying ht, Result.andThen_ok, hs]
  have hp : ∀ (zs : List Int) (i : Nat) (h : i < zs.length) (w : World), (part e (zs.map (Value.int k)).toArray (i * 1)).run P w = .ok (.int k zs[i]) w := fun zs i h w => by
    simp [part, hag, h]
  have h1 := forIn_eq (P := P) (w := w) xs ys hx hy (fun i __s => do
            let __do_lift ← part e (List.map (Value.int k) xs).toArray (i * 1)
            let __do_lift_1 ← part e (List.map (Value.int k) ys).toArray (i * 1)
            let __do_lift ← Op.equalIn (d + 1) e __do_lift __do_lift_1
            if (!__do_lift) = true then pure (ForInStep.done (some false, ())) else pure (ForInStep.yield (none, ()))) (fun i h => by
      simp only [Sem.run_bind, hp xs i (by omega), hp ys i (by omega), Result.andThen_ok, run_equalIn_int w d e k k _ _ he]
      by_cases hh : xs[i] = ys[i]
      · simp [hh]
      · simp [hh]) n 0 (by omega) (by simp)
  rw [Std.Legacy.Range.forIn_eq_forIn_range']
  simp only [Std.Legacy.Range.size, Nat.sub_zero, Nat.add_sub_cancel, Nat.div_one]
  rw [h1]
  by_cases hxy : xs = ys <;> simp [hxy]
end Sh
end Go.Proofs.YtjinhojlnaplaaaDoor

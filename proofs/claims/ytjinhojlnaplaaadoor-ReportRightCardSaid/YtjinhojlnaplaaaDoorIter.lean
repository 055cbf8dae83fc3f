/- Ranges over functions: what an iterator does, and a loop over it. No program in sight. -/
import Derived.Test.YtjinhojlnaplaaaDoorMem
namespace Go.Proofs.YtjinhojlnaplaaaDoor
set_option maxRecDepth 100000
namespace Sh
open Go.RowKit
variable {P : Program} {w w' : World}
theorem Mod.putObj (w : World) (r : Nat) (o : Obj) : Mod (· = r) w (w.putObj r o) := ⟨rfl, rfl, rfl, by simp, fun _ _ hne => World.putObj_heap_other hne⟩
theorem KeepL.of_mod {S : Nat → Prop} {a b : World} {D : Nat} (h : Mod S a b) (hd : D + 1 < a.heap.size) (h1 : ¬ S D) (h2 : ¬ S (D + 1)) : KeepL D a b := ⟨h.block _ (by omega) h1, h.block _ hd h2⟩
theorem KeepL.of_ext {a b : World} {D : Nat} (h : Ext a b) (hd : D + 1 < a.heap.size) : KeepL D a b := ⟨h.block _ (by omega), h.block _ hd⟩
/-- An iterator that hands on n rows of values, one after the other, and between them only adds to the world. -/
def SeqOf (P : Program) (gv : Value) (n : Nat) (xs : Nat → List Value) (Rd : World → Prop) : Prop :=
  ∃ gf lb, gv = .func (.func gf) #[] lb ∧ goes P gf = true ∧ ∀ (y : Value) (I : Nat → World → Prop) (S : World → Prop) (w1 : World),
    I 0 w1 → (∀ k a b, I k a → Ext a b → I k b) → (∀ k a, I k a → Rd a) → (∀ a b, S a → Ext a b → S b) →
    (∀ k W K X, k < n → I k W → (∀ W', I (k + 1) W' → K (.bool true) W') → (∀ W', S W' → K (.bool false) W') → CallV P y (xs k).toArray W K X) →
    CallF P gf (#[y] ++ lb) w1 (fun _ W => I n W ∨ S W) (fun _ _ => False)
theorem range_seq {gv : Value} {np : Nat} {w : World} {rd : Nat → List Value → World → (Exit → World → Prop) → Prop} {fN fR : Nat → World → Prop} {fX : List (Nat × (Nat → World → Prop))} {n : Nat} {xs : Nat → List Value} {Rd : World → Prop}
    (hs : SeqOf P gv n xs Rd) (hnp : ∀ k, k < n → (xs k).length = np) (I : Nat → World → Prop) (J : Exit → World → Prop)
    (h0 : ∀ w1, Ext w w1 → w.heap.size + 2 ≤ w1.heap.size → I 0 w1) (hsz : ∀ k a, I k a → w.heap.size + 2 ≤ a.heap.size) (hszJ : ∀ e a, J e a → w.heap.size + 2 ≤ a.heap.size)
    (hx : ∀ k a b, I k a → Ext a b → I k b) (hxJ : ∀ e a b, J e a → Ext a b → J e b) (hRd : ∀ k a, I k a → Rd a) (hJe : ∀ e a, J e a → e = .ret ∨ ∃ p ∈ fX, e = .exit p.1)
    (hrd : ∀ k W (Q : Exit → World → Prop), k < n → I k W → (∀ W', I (k + 1) W' → Q .normal W') → (∀ e W', J e W' → Q e W') → rd w.heap.size (xs k) W Q)
    (hN : ∀ W, I n W → ∀ W', Mod (· = w.heap.size + 1) W W' → W'.heap.size = W.heap.size → At W' w.heap.size (.deferred (some [])) → fN w.heap.size W')
    (hR : ∀ W, J .ret W → ∀ W', Mod (· = w.heap.size + 1) W W' → W'.heap.size = W.heap.size → At W' w.heap.size (.deferred (some [])) → fR w.heap.size W')
    (hX : ∀ p ∈ fX, ∀ W, J (.exit p.1) W → ∀ W', Mod (· = w.heap.size + 1) W W' → W'.heap.size = W.heap.size → At W' w.heap.size (.deferred (some [])) → p.2 w.heap.size W') : RangeE P gv np w rd fN fR fX := by
  obtain ⟨gf, lb, h1, h2, h3⟩ := hs
  refine ⟨gf, lb, h1, h2, fun r R T hR0 hRk hTk hy => ?_⟩
  have x1 : Ext w ((w.alloc (.deferred (some []))).alloc (.loop r)) := (Ext.alloc _ _).trans (Ext.alloc _ _)
  have z1 : ((w.alloc (.deferred (some []))).alloc (.loop r)).heap.size = w.heap.size + 2 := by simp
  refine Calls.mono (h3 (.func (.yield (w.heap.size + 1)) #[] #[]) (fun k W => I k W ∧ R W) (fun W => ∃ e, J e W ∧ T e W) _ ⟨h0 _ x1 (by omega), hR0⟩
    (fun k a b h he => ⟨hx k a b h.1 he, hRk a b h.2 (.of_ext he (by have := hsz k a h.1; omega))⟩) (fun k a h => hRd k a h.1)
    (fun a b ⟨e, h, ht⟩ he => ⟨e, hxJ e a b h he, hTk e a b ht (.of_ext he (by have := hszJ e a h; omega))⟩) ?_) ?_
  · intro k W K X hk hI hK1 hK2
    refine hy (xs k) W K X (hnp k hk) hI.2 (hrd k W (roundJ R T K) hk hI.1 (fun W' hI' hR' => hK1 W' ⟨hI', hR'⟩) fun e W' hJ => ?_)
    rcases hJe e W' hJ with rfl | ⟨p, _, rfl⟩
    · exact fun hT => hK2 W' ⟨_, hJ, hT⟩
    · exact fun hT => hK2 W' ⟨_, hJ, hT⟩
  · intro e W he
    cases e with
    | returned v =>
      rcases he with ⟨hI, hr⟩ | ⟨e, hJ, hT⟩
      · exact .inl ⟨hr, fun o ho => hN W hI _ (Mod.putObj _ _ _) (by simp) ho⟩
      · rcases hJe e W hJ with rfl | ⟨p, hp, rfl⟩
        · exact .inr (.inl ⟨hT, fun o ho => hR W hJ _ (Mod.putObj _ _ _) (by simp) ho⟩)
        · exact .inr (.inr ⟨p, hp, hT, fun o ho => hX p hp W hJ _ (Mod.putObj _ _ _) (by simp) ho⟩)
    | _ => exact he
/-- A round's end. -/
theorem round_end {S : Nat → Prop} {D : Nat} {wb w3 : World} {e : Exit} {Q : Exit → World → Prop} (hm : Mod S wb w3) (hd : D + 1 < wb.heap.size) (h1 : ¬ S D) (h2 : ¬ S (D + 1)) (hQ : ∀ W', Mod (· = D + 1) w3 W' → W'.heap.size = w3.heap.size → Q e W') :
    KeepL D wb w3 ∧ ∀ o, Q e (w3.putObj (D + 1) o) := ⟨.of_mod hm hd h1 h2, fun o => hQ _ (Mod.putObj _ _ _) (by simp)⟩
/-- Behind a round's assignments. -/
theorem round_start {S : Nat → Prop} {D : Nat} {wb w3 : World} {B : World → Prop} (hm : Mod S wb w3) (hd : D + 1 < wb.heap.size) (h1 : ¬ S D) (h2 : ¬ S (D + 1)) (hB : ∀ W', Mod (· = D + 1) w3 W' → W'.heap.size = w3.heap.size → B W') :
    KeepL D wb w3 ∧ ∀ o, B (w3.putObj (D + 1) o) := ⟨.of_mod hm hd h1 h2, fun o => hB _ (Mod.putObj _ _ _) (by simp)⟩
theorem mark_i {D : Nat} {k : World → Prop} (h : At w D (.deferred (some []))) (hk : ∀ W', Mod (· = D) w W' → W'.heap.size = w.heap.size → k W') : MarkE D w k := ⟨h, hk _ (Mod.putObj _ _ _) (by simp)⟩
end Sh
end Go.Proofs.YtjinhojlnaplaaaDoor

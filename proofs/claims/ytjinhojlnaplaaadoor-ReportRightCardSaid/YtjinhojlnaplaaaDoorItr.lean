/- A loop without variables; ranging over a string; append of a string. No program in sight. -/
import Derived.Test.YtjinhojlnaplaaaDoorShort
import Derived.Laws.RangeString
import Derived.Lib.AppendStr
import Derived.Sort.Grow
namespace Go.Proofs.YtjinhojlnaplaaaDoor
set_option maxRecDepth 100000
namespace Sh
open Go.RowKit
variable {P : Program} {w w' : World} {K : Value → World → Prop} {X : List PanicEntry → World → Prop}
theorem loop0 {body : (Nat → Value) → World → (List Value → World → Prop) → Prop} (I : World → Prop) (μ : World → Nat) (h0 : I w)
    (hs : ∀ h w1, I w1 → ∀ K : List Value → World → Prop, (∀ w2, I w2 → μ w2 < μ w1 → K [] w2) → body h w1 K) : LoopE [] [] w body :=
  ⟨fun l w => l = [] ∧ I w, fun _ w => μ w, ⟨rfl, h0⟩, fun h w1 ⟨_, hI⟩ => hs h w1 hI _ fun _ h1 h2 => ⟨⟨rfl, h1⟩, h2⟩⟩
theorem range_str {t : TypeId} {s : ByteArray} (ht : P.underlying t = some .string) (hk : ∀ b w1, Ext w w1 → At w1 b (.stringIter s 0) → w.heap.size = b → w1.heap.size = b + 1 → K (.pointer (some ⟨b, 0, none⟩)) w1) :
    DoV P (Instr.range t (.string s)) w K X := by
  rw [DoV_ok (run_range_string w t s ht)]
  exact hk _ _ (Ext.alloc _ _) (World.iter_heap w s 0) rfl (by simp [World.iter])
theorem set_at {b : Nat} {o o' : Obj} (h : At w b o) : At { w with heap := w.heap.setIfInBounds b o' } b o' ∧ Mod (· = b) w { w with heap := w.heap.setIfInBounds b o' } := by
  have hlt := h.lt
  refine ⟨by unfold At; simp [hlt], rfl, rfl, rfl, by simp, fun k hk hn => ?_⟩
  rw [Array.getElem?_setIfInBounds_ne (fun e => hn e.symm)]
theorem next_str {b p : Nat} {s : ByteArray} {ty : TypeId} (h : At w b (.stringIter s p)) (hp : p < s.size) (ha : (s[p]'hp).toNat < 128)
    (hk : ∀ w1, Mod (· = b) w w1 → At w1 b (.stringIter s (p + 1)) → w1.heap.size = w.heap.size → K (.tuple #[.bool true, .int .i64 p, .int .i32 (s[p]'hp).toNat]) w1) :
    DoV P (Instr.next (.pointer (some ⟨b, 0, none⟩)) true ty) w K X := by
  have h' : w.heap[b]? = some (.stringIter s p) := h
  have e : (Instr.next (.pointer (some ⟨b, 0, none⟩)) true ty).run P w = .ok (.tuple #[.bool true, .int .i64 p, .int .i32 (s[p]'hp).toNat]) { w with heap := w.heap.setIfInBounds b (.stringIter s (p + 1)) } := by
    simp only [Instr.next, getObj, setObj, Sem.run_bind, Sem.run, h', Result.andThen, hp, if_true, decode_ascii s p hp ha]
    simp [goInt]
  rw [DoV_ok e]
  obtain ⟨h1, h2⟩ := set_at (o' := .stringIter s (p + 1)) h
  exact hk _ h2 h1 (by simp)
theorem next_end {b p : Nat} {s : ByteArray} {ty : TypeId} (h : At w b (.stringIter s p)) (hp : ¬ p < s.size) : DoV P (Instr.next (.pointer (some ⟨b, 0, none⟩)) true ty) w K X = K (.tuple #[.bool false]) w := by
  have h' : w.heap[b]? = some (.stringIter s p) := h
  exact DoV_ok (by simp [Instr.next, getObj, Sem.run, h', hp])
theorem ext1_0 {a : Value} : DoV P (Instr.extract (.tuple #[a]) 0) w K X = K a w := ext_tuple rfl
/-- how far an iterator still has to go -/
def itLeft (b : Nat) (w : World) : Nat := match w.heap[b]? with | some (.stringIter s p) => s.size - p | _ => 0
theorem itLeft_at {b p : Nat} {s : ByteArray} (h : At w b (.stringIter s p)) : itLeft b w = s.size - p := by unfold At at h; simp [itLeft, h]
theorem Ext.grow (k : Nat) (os : Array Obj) : Ext w (Go.Sort.grow (w.drewN k) os) := by
  refine ⟨rfl, rfl, rfl, ?_, fun i hi => ?_⟩
  · show w.heap.size ≤ ((w.drewN k).heap ++ os).size
    rw [Array.size_append]; exact Nat.le_add_right _ _
  · show ((w.drewN k).heap ++ os)[i]? = w.heap[i]?
    exact Array.getElem?_append_left hi
/-- append of a string's bytes onto a row of one's own -/
theorem app_string {base : Nat} {T U e : TypeId} {ty : TypeId} {cs : Array Bool} {i : TypeInfo} (hT : P.underlying T = some (.slice e)) (hU : P.underlying U = some .string) (hi : P.info? e = some i) (hz : i.zero = some (.int .u8 0)) (hsz : i.size = 1) (hby : i.bytes = 1)
    {v : Value} {n : Nat} {xs : List Value} {s : ByteArray} (hown : w.ownsRow base e 1 v n xs) (hb : n + s.size ≤ 140737488355328) (hbase : base ≤ w.heap.size)
    (hk : ∀ v' w1, w1.ownsRow base e 1 v' (n + s.size) (xs ++ Go.Lib.strCells s) → Mod (fun k => v.ownBlock = some k) w w1 → K v' w1) : CallB P .append #[T, U] ty cs #[v, .string s] w K X := by
  obtain ⟨v', w1, he, h2, h3, _⟩ := Go.Lib.run_append_own_string (P := P) w base T U ty e i hT hU hi hz hsz hby v n xs hown s (by simp only [maxLen]; omega) hb hbase
  simp only [CallB, Do, builtin, Sem.run_bind, he, Result.andThen_ok, Sem.run_pure]
  exact hk v' w1 h2 (.grown h3)
theorem callF_calls {f : FuncId} {args : Array Value} {v : Value} {Q : World → Prop} (h : Calls P f args w fun e w' => e = .returned v ∧ Q w') : Ret P f args w fun r w' => r = v ∧ Q w' :=
  Calls.mono h fun e w' he => by obtain ⟨rfl, hq⟩ := he; exact ⟨rfl, hq⟩
end Sh
end Go.Proofs.YtjinhojlnaplaaaDoor

/- The plain law of the digest: a fold over bytes that is one to one in the state and in each byte; the decimal numeral. -/
import Derived.Lib.ItoaNum
import Derived.Test.YtoeblipchoglaaaGreatDoorZBaseB
import Derived.Laws.RangeString
import Derived.Lib.AppendStr
import Derived.Sort.Grow
import Derived.Laws.StructEq
import Derived.OpenShut
import Derived.Carry
import Derived.ChangeArms
import Derived.ChangeMaps5
import Derived.Great.FillDense
namespace Go.Proofs.YtoeblipchoglaaaGreatDoor
set_option maxRecDepth 100000
def I64 (n : Int) : Prop := -9223372036854775808 ≤ n ∧ n ≤ 9223372036854775807
namespace Dig

def factor : BitVec 64 := 1099511628211
def begin64 : BitVec 64 := 14695981039346656037
def step (d : BitVec 64) (b : UInt8) : BitVec 64 := (d ^^^ (b.toBitVec.zeroExtend 64)) * factor
def run (d : BitVec 64) (l : List UInt8) : BitVec 64 := l.foldl step d
def text (l : List UInt8) : BitVec 64 := run begin64 l

theorem run_append (d : BitVec 64) (a b : List UInt8) : run d (a ++ b) = run (run d a) b := by simp [run]

def bytes8 (d : BitVec 64) : List UInt8 := (List.range 8).map fun i => UInt8.ofBitVec ((d >>> (56 - 8 * i)).setWidth 8)
def texts (l : List Int) : List UInt8 := l.flatMap fun n => Go.Lib.itoa n ++ [32]
def next (d : BitVec 64) (l : List Int) : BitVec 64 := text (bytes8 d ++ texts l)
def sum (l : List Int) : BitVec 64 := next begin64 l

theorem texts_append (a b : List Int) : texts (a ++ b) = texts a ++ texts b := by simp [texts]

def rdig (u : Nat) : List UInt8 := if h : u = 0 then [] else UInt8.ofNat (48 + u % 10) :: rdig (u / 10)
termination_by u
decreasing_by omega
theorem rdig_zero : rdig 0 = [] := by rw [rdig, dif_pos rfl]
theorem rdig_pos {u : Nat} (h : u ≠ 0) : rdig u = UInt8.ofNat (48 + u % 10) :: rdig (u / 10) := by rw [rdig, dif_neg h]
theorem decDigits_rdig : ∀ (u : Nat), u ≠ 0 → Go.Lib.decDigits u = (rdig u).reverse := by
  intro u
  induction u using Nat.strongRecOn with
  | _ u ih =>
    intro h
    rw [rdig_pos h, Go.Lib.decDigits]
    by_cases hs : u < 10
    · rw [dif_pos hs, show u / 10 = 0 by omega, rdig_zero, Nat.mod_eq_of_lt hs]; rfl
    · rw [dif_neg hs, ih (u / 10) (by omega) (by omega), List.reverse_cons]
theorem decDigits_ascii : ∀ (u : Nat), ∀ c ∈ Go.Lib.decDigits u, c.toNat < 128 := by
  intro u
  induction u using Nat.strongRecOn with
  | _ u ih =>
    intro c hc
    rw [Go.Lib.decDigits] at hc
    by_cases hs : u < 10
    · rw [dif_pos hs] at hc
      simp only [List.mem_singleton] at hc
      subst hc
      simp only [UInt8.toNat_ofNat']; omega
    · rw [dif_neg hs] at hc
      rcases List.mem_append.1 hc with hc | hc
      · exact ih (u / 10) (by omega) c hc
      · simp only [List.mem_singleton] at hc
        subst hc
        simp only [UInt8.toNat_ofNat']; omega
theorem itoa_ascii (n : Int) : ∀ c ∈ Go.Lib.itoa n, c.toNat < 128 := by
  intro c hc
  unfold Go.Lib.itoa at hc
  split at hc
  · rcases List.mem_cons.1 hc with rfl | hc
    · decide
    · exact decDigits_ascii _ c hc
  · exact decDigits_ascii _ c hc
theorem itoa_rdig {n : Int} (h : n ≠ 0) : Go.Lib.itoa n = (rdig n.natAbs ++ if n < 0 then [45] else []).reverse := by
  unfold Go.Lib.itoa
  by_cases hn : n < 0
  · rw [if_pos hn, if_pos hn, decDigits_rdig _ (by omega)]; simp
  · rw [if_neg hn, if_neg hn, decDigits_rdig _ (by omega), List.append_nil, show n.toNat = n.natAbs by omega]
theorem rdig_length : ∀ (k u : Nat), u < 10 ^ k → (rdig u).length ≤ k := by
  intro k
  induction k with
  | zero => intro u hu; have : u = 0 := by simpa using hu
            subst this; rw [rdig_zero]; simp
  | succ k ih =>
    intro u hu
    by_cases h : u = 0
    · subst h; rw [rdig_zero]; simp
    · rw [rdig_pos h, List.length_cons]
      have := ih (u / 10) (by rw [Nat.div_lt_iff_lt_mul (by omega)]; rw [Nat.pow_succ] at hu; exact hu)
      omega
theorem texts_nil : texts [] = [] := rfl
theorem texts_one (l : List Int) (n : Int) : texts (l ++ [n]) = texts l ++ (Go.Lib.itoa n ++ [32]) := by rw [texts_append]; simp [texts]
end Dig
end Go.Proofs.YtoeblipchoglaaaGreatDoor
namespace Go.Proofs.YtoeblipchoglaaaGreatDoor
set_option maxRecDepth 100000
namespace Sh
open Go.RowKit
variable {P : Program} {w w' : World} {K : Value → World → Prop} {X : List PanicEntry → World → Prop}
theorem loop0 {body : (Nat → Value) → World → (List Value → World → Prop) → Prop} (I : World → Prop) (μ : World → Nat) (h0 : I w)
    (hs : ∀ h w1, I w1 → ∀ K : List Value → World → Prop, (∀ w2, I w2 → μ w2 < μ w1 → K [] w2) → body h w1 K) : LoopE [] [] w body :=
  ⟨fun l w => l = [] ∧ I w, fun _ w => μ w, ⟨rfl, h0⟩, fun h w1 ⟨_, hI⟩ => hs h w1 hI _ fun _ h1 h2 => ⟨⟨rfl, h1⟩, h2⟩⟩
theorem range_str {t : TypeId} {s : ByteArray} (ht : P.underlying t = some .string) (hk : ∀ b w1, Ext w w1 → At w1 b (.stringIter s 0) → w.heap.size = b → w1.heap.size = b + 1 → K (.pointer (some ⟨b, 0, none⟩)) w1) :
    DoV P (Instr.range t (.string s)) w K X := by
  rw [DoV_ok (run_range_string w t s ht)]
  exact hk _ _ (Ext.alloc _ _) (World.iter_heap w s 0) rfl (by simp [World.iter])
theorem set_at {b : Nat} {o o' : Obj} (h : At w b o) : At { w with heap := w.heap.setIfInBounds b o' } b o' ∧ Mod (· = b) w { w with heap := w.heap.setIfInBounds b o' } := by
  have hlt := h.lt
  refine ⟨by unfold At; simp [hlt], rfl, rfl, rfl, by simp, fun k hk hn => ?_⟩
  rw [Array.getElem?_setIfInBounds_ne (fun e => hn e.symm)]
theorem next_str {b p : Nat} {s : ByteArray} {ty : TypeId} (h : At w b (.stringIter s p)) (hp : p < s.size) (ha : (s[p]'hp).toNat < 128)
    (hk : ∀ w1, Mod (· = b) w w1 → At w1 b (.stringIter s (p + 1)) → w1.heap.size = w.heap.size → K (.tuple #[.bool true, .int .i64 p, .int .i32 (s[p]'hp).toNat]) w1) :
    DoV P (Instr.next (.pointer (some ⟨b, 0, none⟩)) true ty) w K X := by
  have h' : w.heap[b]? = some (.stringIter s p) := h
  have e : (Instr.next (.pointer (some ⟨b, 0, none⟩)) true ty).run P w = .ok (.tuple #[.bool true, .int .i64 p, .int .i32 (s[p]'hp).toNat]) { w with heap := w.heap.setIfInBounds b (.stringIter s (p + 1)) } := by
    simp only [Instr.next, getObj, setObj, Sem.run_bind, Sem.run, h', Result.andThen, hp, if_true, decode_ascii s p hp ha]
    simp [goInt]
  rw [DoV_ok e]
  obtain ⟨h1, h2⟩ := set_at (o' := .stringIter s (p + 1)) h
  exact hk _ h2 h1 (by simp)
theorem next_end {b p : Nat} {s : ByteArray} {ty : TypeId} (h : At w b (.stringIter s p)) (hp : ¬ p < s.size) : DoV P (Instr.next (.pointer (some ⟨b, 0, none⟩)) true ty) w K X = K (.tuple #[.bool false]) w := by
  have h' : w.heap[b]? = some (.stringIter s p) := h
  exact DoV_ok (by simp [Instr.next, getObj, Sem.run, h', hp])
theorem ext1_0 {a : Value} : DoV P (Instr.extract (.tuple #[a]) 0) w K X = K a w := ext_tuple rfl
def itLeft (b : Nat) (w : World) : Nat := match w.heap[b]? with | some (.stringIter s p) => s.size - p | _ => 0
theorem itLeft_at {b p : Nat} {s : ByteArray} (h : At w b (.stringIter s p)) : itLeft b w = s.size - p := by unfold At at h; simp [itLeft, h]
theorem Ext.grow (k : Nat) (os : Array Obj) : Ext w (Go.Sort.grow (w.drewN k) os) := by
  refine ⟨rfl, rfl, rfl, ?_, fun i hi => ?_⟩
  · show w.heap.size ≤ ((w.drewN k).heap ++ os).size
    rw [Array.size_append]; exact Nat.le_add_right _ _
  · show ((w.drewN k).heap ++ os)[i]? = w.heap[i]?
    exact Array.getElem?_append_left hi
theorem app_string {base : Nat} {T U e : TypeId} {ty : TypeId} {cs : Array Bool} {i : TypeInfo} (hT : P.underlying T = some (.slice e)) (hU : P.underlying U = some .string) (hi : P.info? e = some i) (hz : i.zero = some (.int .u8 0)) (hsz : i.size = 1) (hby : i.bytes = 1)
    {v : Value} {n : Nat} {xs : List Value} {s : ByteArray} (hown : w.ownsRow base e 1 v n xs) (hb : n + s.size ≤ 140737488355328) (hbase : base ≤ w.heap.size)
    (hk : ∀ v' w1, w1.ownsRow base e 1 v' (n + s.size) (xs ++ Go.Lib.strCells s) → Mod (fun k => v.ownBlock = some k) w w1 → K v' w1) : CallB P .append #[T, U] ty cs #[v, .string s] w K X := by
  obtain ⟨v', w1, he, h2, h3, _⟩ := Go.Lib.run_append_own_string (P := P) w base T U ty e i hT hU hi hz hsz hby v n xs hown s (by simp only [maxLen]; omega) hb hbase
  simp only [CallB, Do, builtin, Sem.run_bind, he, Result.andThen_ok, Sem.run_pure]
  exact hk v' w1 h2 (.grown h3)
theorem callF_calls {f : FuncId} {args : Array Value} {v : Value} {Q : World → Prop} (h : Calls P f args w fun e w' => e = .returned v ∧ Q w') : Ret P f args w fun r w' => r = v ∧ Q w' :=
  Calls.mono h fun e w' he => by obtain ⟨rfl, hq⟩ := he; exact ⟨rfl, hq⟩
end Sh
end Go.Proofs.YtoeblipchoglaaaGreatDoor
namespace Go.Proofs.YtoeblipchoglaaaGreatDoor
set_option maxRecDepth 100000
namespace Sh
open Go.RowKit
variable {P : Program} {w : World}
theorem forIn_eq {n : Nat} (xs ys : List Int) (hx : xs.length = n) (hy : ys.length = n) (f : Nat → Option Bool × Unit → Sem (ForInStep (Option Bool × Unit)))
    (hf : ∀ i (h : i < n), (f i (none, ())).run P w = .ok (if xs[i] = ys[i] then .yield (none, ()) else .done (some false, ())) w) :
    ∀ (m s : Nat), s + m = n → xs.take s = ys.take s → (forIn (List.range' s m) ((none, ()) : Option Bool × Unit) f).run P w = .ok (if xs = ys then (none, ()) else (some false, ())) w
  | 0, s, hs, ht => by
    have : xs = ys := by rwa [List.take_of_length_le (by omega), List.take_of_length_le (by omega)] at ht
    simp [this]
  | m + 1, s, hs, ht => by
    rw [List.range'_succ, List.forIn_cons]
    simp only [Sem.run_bind, hf s (by omega), Result.andThen_ok]
    by_cases h : xs[s]'(by omega) = ys[s]'(by omega)
    · rw [if_pos h]
      refine forIn_eq xs ys hx hy f hf m (s + 1) (by omega) ?_
      rw [List.take_succ_eq_append_getElem (by omega), List.take_succ_eq_append_getElem (by omega), ht, h]
    · rw [if_neg h]
      have hne : xs ≠ ys := fun e => h (by subst e; rfl)
      simp [hne]
theorem equal_arr {t e : TypeId} {n : Nat} {k : IntKind} {i : TypeInfo} (d : Nat) (ht : P.underlying t = some (.array n e)) (he : P.underlying e = some (.int k)) (hi : P.info? e = some i) (hsz : i.size = 1) (hag : ∀ w, (isAgg e).run P w = .ok false w) (xs ys : List Int) (hx : xs.length = n) (hy : ys.length = n) :
    (Op.equalIn (d + 2) t (.agg (xs.map (Value.int k)).toArray) (.agg (ys.map (Value.int k)).toArray)).run P w = .ok (decide (xs = ys)) w := by
  have hs : (sizeOf e).run P w = .ok 1 w := by simp [sizeOf, typeInfo, hi, hsz]
  rw [Op.equalIn]
  simp only [Sem.run_bind, run_underlying ht, Result.andThen_ok, hs]
  have hp : ∀ (zs : List Int) (i : Nat) (h : i < zs.length) (w : World), (part e (zs.map (Value.int k)).toArray (i * 1)).run P w = .ok (.int k zs[i]) w := fun zs i h w => by
    simp [part, hag, h]
  have h1 := forIn_eq (P := P) (w := w) xs ys hx hy (fun i __s => do
            let __do_lift ← part e (List.map (Value.int k) xs).toArray (i * 1)
            let __do_lift_1 ← part e (List.map (Value.int k) ys).toArray (i * 1)
            let __do_lift ← Op.equalIn (d + 1) e __do_lift __do_lift_1
            if (!__do_lift) = true then pure (ForInStep.done (some false, ())) else pure (ForInStep.yield (none, ()))) (fun i h => by
      simp only [Sem.run_bind, hp xs i (by omega), hp ys i (by omega), Result.andThen_ok, run_equalIn_int w d e k k _ _ he]
      by_cases hh : xs[i] = ys[i]
      · simp [hh]
      · simp [hh]) n 0 (by omega) (by simp)
  rw [Std.Legacy.Range.forIn_eq_forIn_range']
  simp only [Std.Legacy.Range.size, Nat.sub_zero, Nat.add_sub_cancel, Nat.div_one]
  rw [h1]
  by_cases hxy : xs = ys <;> simp [hxy]
end Sh
end Go.Proofs.YtoeblipchoglaaaGreatDoor
namespace Go.Proofs.YtoeblipchoglaaaGreatDoor
set_option maxRecDepth 100000
namespace Sh
open Go.RowKit Go.WideShapes Go.ChangeShapes
section
variable {H : Type} {enc : TypeId × Value → H} {P : Program} {w : World}
theorem pick_list {α : Type} [Inhabited α] {n : Nat} {R : Nat → α → Prop} (h : ∀ i, i < n → ∃ a, R i a) : ∃ l : List α, l.length = n ∧ ∀ i a, l[i]? = some a → R i a := by
  have h2 : ∀ i, ∃ a, i < n → R i a := fun i => by
    by_cases hi : i < n
    · obtain ⟨a, ha⟩ := h i hi; exact ⟨a, fun _ => ha⟩
    · exact ⟨default, fun h => absurd h hi⟩
  refine ⟨(List.range n).map fun i => Classical.choose (h2 i), by simp, fun i a ha => ?_⟩
  rw [List.getElem?_map] at ha
  by_cases hi : i < n
  · rw [List.getElem?_range hi] at ha
    simp only [Option.map_some, Option.some.injEq] at ha
    subst ha
    exact Classical.choose_spec (h2 i) hi
  · rw [List.getElem?_eq_none (by simpa using hi)] at ha; cases ha
theorem trod_sl {t e : TypeId} {sz fuel : Nat} {v : Value} {x : DataW H × List MemPlace} (ht : P.underlying t = some (.slice e)) (hc : P.cellsOf e = sz) (hpos : 0 < sz)
    (h : DataW.trod enc P w 0 (fun _ => true) true fuel t [v] = some x) :
    ∃ n xs, Sl w sz v n xs ∧ ∀ i, i < n → ∃ m y, DataW.trod enc P w 0 (fun _ => true) true m e ((xs.drop (i * sz)).take sz) = some y := by
  rcases DataW.trod_slice ht h with ⟨h0, _⟩ | ⟨a, len, cap, elems, rest, n, _, hcs, _, _, hl, hm, hlen, hel, _, _⟩
  · simp only [List.cons.injEq, and_true] at h0
    subst h0
    exact ⟨0, [], Sl.nil _ _, fun i hi => by omega⟩
  · simp only [List.cons.injEq, and_true] at hcs
    subst hcs
    rw [hc] at hel
    have each : ∀ i, i < len → ∃ cs y, w.cells? 0 (a.add (i * sz)) sz = some cs ∧ DataW.trod enc P w 0 (fun _ => true) true n e cs = some y := fun i hi => by
      have h1 := hel i hi
      rw [List.getElem?_eq_getElem (by omega), Option.bind_eq_some_iff] at h1
      obtain ⟨cs, h2, h3⟩ := h1
      exact ⟨cs, _, h2, h3⟩
    obtain ⟨xs, hxs⟩ : ∃ xs : List Value, xs = (List.range (len * sz)).map fun j => (w.cell? (a.add j)).getD undef := ⟨_, rfl⟩
    have hxl : xs.length = len * sz := by rw [hxs]; simp
    have add2 : ∀ i j, (a.add i).add j = a.add (i + j) := fun i j => by
      unfold Addr.add
      by_cases hi : i = 0
      · subst hi; simp
      · rw [if_neg hi]
        by_cases hj : j = 0
        · subst hj; simp [hi]
        · rw [if_neg hj, if_neg (by omega)]; simp [Nat.add_assoc]
    have cellsAt : ∀ i, i < len → ∀ r, r < sz → ∃ u, w.cell? (a.add (i * sz + r)) = some u := fun i hi r hr => by
      obtain ⟨cs, y, h1, _⟩ := each i hi
      obtain ⟨_, h2, h3⟩ := World.cells?_some h1
      have h4 := h3 r hr
      rw [List.getElem?_eq_getElem (by omega), add2] at h4
      exact ⟨_, h4⟩
    have cellAt : ∀ j, j < len * sz → ∃ u, w.cell? (a.add j) = some u := fun j hj => by
      have h1 : j / sz < len := by rw [Nat.div_lt_iff_lt_mul hpos]; exact hj
      obtain ⟨u, hu⟩ := cellsAt (j / sz) h1 (j % sz) (Nat.mod_lt _ hpos)
      rw [Nat.mul_comm, Nat.div_add_mod] at hu
      exact ⟨u, hu⟩
    have hxj : ∀ j u, xs[j]? = some u → w.cell? (a.add j) = some u := fun j u hu => by
      have hj : j < len * sz := by have := (List.getElem?_eq_some_iff.1 hu).1; omega
      obtain ⟨u', hu'⟩ := cellAt j hj
      rw [hxs, List.getElem?_map, List.getElem?_range hj] at hu
      simp only [Option.map_some, hu', Option.getD_some, Option.some.injEq] at hu
      rw [hu', hu]
    refine ⟨len, xs, ⟨some a, cap, rfl, hl, hm, hxl, ?_⟩, fun i hi => ?_⟩
    · by_cases h0 : len * sz = 0
      · exact .inl (List.eq_nil_of_length_eq_zero (by omega))
      · obtain ⟨u, hu⟩ := cellAt 0 (by omega)
        obtain ⟨b, o, spot⟩ := a
        have hs := World.cell?_spot hu
        have hs : spot = none := by simpa [Addr.add] using hs
        subst hs
        refine .inr ⟨b, o, rfl, ?_, fun j u hu => ?_⟩
        · simp only [World.cell?, Addr.add] at hu
          simp only [if_true] at hu
          refine Nat.lt_of_not_le fun hge => ?_
          rw [Array.getElem?_eq_none hge] at hu
          simp at hu
        · have := hxj j u hu
          unfold Addr.add at this
          split at this
          · rename_i hj; subst hj; simpa using this
          · exact this
    · obtain ⟨cs, y, h1, h2⟩ := each i hi
      obtain ⟨_, h3, h4⟩ := World.cells?_some h1
      refine ⟨n, y, ?_⟩
      have e1 : (xs.drop (i * sz)).take sz = cs := by
        apply List.ext_getElem?
        intro r
        rw [List.getElem?_take]
        by_cases hr : r < sz
        · rw [if_pos hr, List.getElem?_drop]
          have h5 := h4 r hr
          rw [add2] at h5
          have hj : i * sz + r < len * sz := by
            have : (i + 1) * sz ≤ len * sz := Nat.mul_le_mul_right sz (by omega)
            rw [Nat.add_mul] at this; omega
          rw [← h5, hxs, List.getElem?_map, List.getElem?_range hj]
          obtain ⟨u', hu'⟩ := cellAt _ hj
          simp [hu']
        · rw [if_neg hr, List.getElem?_eq_none (by omega)]
      rw [e1]; exact h2
theorem drop_one {xs : List Value} {i : Nat} {u : Value} (h : xs[i]? = some u) : (xs.drop (i * 1)).take 1 = [u] := by
  obtain ⟨hi, rfl⟩ := List.getElem?_eq_some_iff.1 h
  rw [Nat.mul_one, List.drop_eq_getElem_cons hi]; rfl
theorem trod_nums {t e : TypeId} {k : IntKind} {fuel : Nat} {v : Value} {x : DataW H × List MemPlace} (ht : P.underlying t = some (.slice e)) (he : P.underlying e = some (.int k)) (hc : P.cellsOf e = 1)
    (h : DataW.trod enc P w 0 (fun _ => true) true fuel t [v] = some x) : ∃ l : List Int, Sl w 1 v l.length (l.map (Value.int k)) ∧ ∀ z ∈ l, (Lit.int k z).wf = true := by
  obtain ⟨n, xs, hs, hel⟩ := trod_sl ht hc (by decide) h
  have hxl : xs.length = n := by obtain ⟨_, _, _, _, _, h3, _⟩ := hs; omega
  obtain ⟨l, hl, hR⟩ := pick_list (n := n) (R := fun i z => xs[i]? = some (Value.int k z) ∧ (Lit.int k z).wf = true) fun i hi => by
    obtain ⟨m, y, hy⟩ := hel i hi
    obtain ⟨u, hu⟩ : ∃ u, xs[i]? = some u := ⟨xs[i], List.getElem?_eq_getElem (by omega)⟩
    rw [drop_one hu] at hy
    obtain ⟨z, h1, _, h2⟩ := DataW.trod_int he hy
    simp only [List.cons.injEq, and_true] at h1
    subst h1
    exact ⟨z, hu, h2⟩
  have e1 : xs = l.map (Value.int k) := by
    apply List.ext_getElem?
    intro i
    by_cases hi : i < n
    · have h2 := (hR i l[i] (List.getElem?_eq_getElem (by omega))).1
      rw [h2, List.getElem?_map, List.getElem?_eq_getElem (by omega)]; rfl
    · rw [List.getElem?_eq_none (by omega), List.getElem?_eq_none (by simp; omega)]
  subst e1
  refine ⟨l, by rw [hl]; exact hs, fun z hz => ?_⟩
  obtain ⟨i, hi⟩ := List.getElem?_of_mem hz
  exact (hR i z hi).2
end
end Sh
end Go.Proofs.YtoeblipchoglaaaGreatDoor
namespace Go.Proofs.YtoeblipchoglaaaGreatDoor
set_option maxRecDepth 100000
namespace Sh
open Go.RowKit
variable {P : Program} {w w' : World}
theorem Mod.putObj (w : World) (r : Nat) (o : Obj) : Mod (· = r) w (w.putObj r o) := ⟨rfl, rfl, rfl, by simp, fun _ _ hne => World.putObj_heap_other hne⟩
theorem KeepL.of_mod {S : Nat → Prop} {a b : World} {D : Nat} (h : Mod S a b) (hd : D + 1 < a.heap.size) (h1 : ¬ S D) (h2 : ¬ S (D + 1)) : KeepL D a b := ⟨h.block _ (by omega) h1, h.block _ hd h2⟩
theorem KeepL.of_ext {a b : World} {D : Nat} (h : Ext a b) (hd : D + 1 < a.heap.size) : KeepL D a b := ⟨h.block _ (by omega), h.block _ hd⟩
def SeqOf (P : Program) (gv : Value) (n : Nat) (xs : Nat → List Value) (Rd : World → Prop) : Prop :=
  ∃ gf lb, gv = .func (.func gf) #[] lb ∧ goes P gf = true ∧ ∀ (y : Value) (I : Nat → World → Prop) (S : World → Prop) (w1 : World),
    I 0 w1 → (∀ k a b, I k a → Ext a b → I k b) → (∀ k a, I k a → Rd a) → (∀ a b, S a → Ext a b → S b) →
    (∀ k W K X, k < n → I k W → (∀ W', I (k + 1) W' → K (.bool true) W') → (∀ W', S W' → K (.bool false) W') → CallV P y (xs k).toArray W K X) →
    CallF P gf (#[y] ++ lb) w1 (fun _ W => I n W ∨ S W) (fun _ _ => False)
theorem range_seq {gv : Value} {np : Nat} {w : World} {rd : Nat → List Value → World → (Exit → World → Prop) → Prop} {fN fR : Nat → World → Prop} {fX : List (Nat × (Nat → World → Prop))} {n : Nat} {xs : Nat → List Value} {Rd : World → Prop}
    (hs : SeqOf P gv n xs Rd) (hnp : ∀ k, k < n → (xs k).length = np) (I : Nat → World → Prop) (J : Exit → World → Prop)
    (h0 : ∀ w1, Ext w w1 → w.heap.size + 2 ≤ w1.heap.size → I 0 w1) (hsz : ∀ k a, I k a → w.heap.size + 2 ≤ a.heap.size) (hszJ : ∀ e a, J e a → w.heap.size + 2 ≤ a.heap.size)
    (hx : ∀ k a b, I k a → Ext a b → I k b) (hxJ : ∀ e a b, J e a → Ext a b → J e b) (hRd : ∀ k a, I k a → Rd a) (hJe : ∀ e a, J e a → e = .ret ∨ ∃ p ∈ fX, e = .exit p.1)
    (hrd : ∀ k W (Q : Exit → World → Prop), k < n → I k W → (∀ W', I (k + 1) W' → Q .normal W') → (∀ e W', J e W' → Q e W') → rd w.heap.size (xs k) W Q)
    (hN : ∀ W, I n W → ∀ W', Mod (· = w.heap.size + 1) W W' → W'.heap.size = W.heap.size → At W' w.heap.size (.deferred (some [])) → fN w.heap.size W')
    (hR : ∀ W, J .ret W → ∀ W', Mod (· = w.heap.size + 1) W W' → W'.heap.size = W.heap.size → At W' w.heap.size (.deferred (some [])) → fR w.heap.size W')
    (hX : ∀ p ∈ fX, ∀ W, J (.exit p.1) W → ∀ W', Mod (· = w.heap.size + 1) W W' → W'.heap.size = W.heap.size → At W' w.heap.size (.deferred (some [])) → p.2 w.heap.size W') : RangeE P gv np w rd fN fR fX := by
  obtain ⟨gf, lb, h1, h2, h3⟩ := hs
  refine ⟨gf, lb, h1, h2, fun r R T hR0 hRk hTk hy => ?_⟩
  have x1 : Ext w ((w.alloc (.deferred (some []))).alloc (.loop r)) := (Ext.alloc _ _).trans (Ext.alloc _ _)
  have z1 : ((w.alloc (.deferred (some []))).alloc (.loop r)).heap.size = w.heap.size + 2 := by simp
  refine Calls.mono (h3 (.func (.yield (w.heap.size + 1)) #[] #[]) (fun k W => I k W ∧ R W) (fun W => ∃ e, J e W ∧ T e W) _ ⟨h0 _ x1 (by omega), hR0⟩
    (fun k a b h he => ⟨hx k a b h.1 he, hRk a b h.2 (.of_ext he (by have := hsz k a h.1; omega))⟩) (fun k a h => hRd k a h.1)
    (fun a b ⟨e, h, ht⟩ he => ⟨e, hxJ e a b h he, hTk e a b ht (.of_ext he (by have := hszJ e a h; omega))⟩) ?_) ?_
  · intro k W K X hk hI hK1 hK2
    refine hy (xs k) W K X (hnp k hk) hI.2 (hrd k W (roundJ R T K) hk hI.1 (fun W' hI' hR' => hK1 W' ⟨hI', hR'⟩) fun e W' hJ => ?_)
    rcases hJe e W' hJ with rfl | ⟨p, _, rfl⟩
    · exact fun hT => hK2 W' ⟨_, hJ, hT⟩
    · exact fun hT => hK2 W' ⟨_, hJ, hT⟩
  · intro e W he
    cases e with
    | returned v =>
      rcases he with ⟨hI, hr⟩ | ⟨e, hJ, hT⟩
      · exact .inl ⟨hr, fun o ho => hN W hI _ (Mod.putObj _ _ _) (by simp) ho⟩
      · rcases hJe e W hJ with rfl | ⟨p, hp, rfl⟩
        · exact .inr (.inl ⟨hT, fun o ho => hR W hJ _ (Mod.putObj _ _ _) (by simp) ho⟩)
        · exact .inr (.inr ⟨p, hp, hT, fun o ho => hX p hp W hJ _ (Mod.putObj _ _ _) (by simp) ho⟩)
    | _ => exact he
theorem round_end {S : Nat → Prop} {D : Nat} {wb w3 : World} {e : Exit} {Q : Exit → World → Prop} (hm : Mod S wb w3) (hd : D + 1 < wb.heap.size) (h1 : ¬ S D) (h2 : ¬ S (D + 1)) (hQ : ∀ W', Mod (· = D + 1) w3 W' → W'.heap.size = w3.heap.size → Q e W') :
    KeepL D wb w3 ∧ ∀ o, Q e (w3.putObj (D + 1) o) := ⟨.of_mod hm hd h1 h2, fun o => hQ _ (Mod.putObj _ _ _) (by simp)⟩
theorem mark_i {D : Nat} {k : World → Prop} (h : At w D (.deferred (some []))) (hk : ∀ W', Mod (· = D) w W' → W'.heap.size = w.heap.size → k W') : MarkE D w k := ⟨h, hk _ (Mod.putObj _ _ _) (by simp)⟩
end Sh
end Go.Proofs.YtoeblipchoglaaaGreatDoor
namespace Go.Proofs.YtoeblipchoglaaaGreatDoor
set_option maxRecDepth 100000
namespace Sh
open Go.RowKit
def fl {α : Type} (c : α → List Value) (l : List α) : List Value := l.flatMap c
section
variable {α : Type} {c : α → List Value} {sz : Nat}
theorem fl_cons (a : α) (l : List α) : fl c (a :: l) = c a ++ fl c l := by simp [fl]
theorem fl_append (l m : List α) : fl c (l ++ m) = fl c l ++ fl c m := by simp [fl]
theorem fl_length (hc : ∀ a, (c a).length = sz) (l : List α) : (fl c l).length = l.length * sz := by
  induction l with
  | nil => simp [fl]
  | cons a l ih => rw [fl_cons, List.length_append, hc, ih, List.length_cons, Nat.add_mul]; omega
theorem fl_drop (hc : ∀ a, (c a).length = sz) : ∀ (l : List α) (k : Nat), (fl c l).drop (k * sz) = fl c (l.drop k)
  | [], k => by simp [fl]
  | a :: l, 0 => by simp
  | a :: l, k + 1 => by
    rw [fl_cons, List.drop_succ_cons, ← fl_drop hc l k, Nat.add_mul, List.drop_append, hc]
    rw [List.drop_eq_nil_of_le (by rw [hc]; omega)]
    simp
theorem fl_take (hc : ∀ a, (c a).length = sz) : ∀ (l : List α) (k : Nat), (fl c l).take (k * sz) = fl c (l.take k)
  | [], k => by simp [fl]
  | a :: l, 0 => by simp [fl]
  | a :: l, k + 1 => by
    rw [fl_cons, List.take_succ_cons, fl_cons, ← fl_take hc l k, Nat.add_mul, List.take_append, hc]
    rw [List.take_of_length_le (by rw [hc]; omega)]
    simp
theorem fl_get (hc : ∀ a, (c a).length = sz) {l : List α} {k j : Nat} {u : Value} (hk : k < l.length) (hu : (c l[k])[j]? = some u) : (fl c l)[k * sz + j]? = some u := by
  have hj : j < sz := by have := (List.getElem?_eq_some_iff.1 hu).1; rw [hc] at this; exact this
  rw [← List.getElem?_drop, fl_drop hc, List.drop_eq_getElem_cons hk, fl_cons, List.getElem?_append_left (by rw [hc]; exact hj)]
  exact hu
theorem fl_one (h1 : ∀ a, ∀ u ∈ c a, u.oneCell' = true) (l : List α) : ∀ u ∈ fl c l, u.oneCell' = true := by
  intro u hu
  simp only [fl, List.mem_flatMap] at hu
  obtain ⟨a, _, hu⟩ := hu
  exact h1 a u hu
end
variable {P : Program} {w w' : World} {K : Value → World → Prop} {X : List PanicEntry → World → Prop}
theorem Sl.el {α : Type} {c : α → List Value} {sz : Nat} {v : Value} {l : List α} (hc : ∀ a, (c a).length = sz) (h : Sl w sz v l.length (fl c l)) {T e : TypeId} (hT : P.underlying T = some (.slice e)) {i : TypeInfo} (hi : P.info? e = some i) (hsz : i.size = sz) {k : IntKind} {j : Nat} (hj : j < l.length) (hpos : 0 < sz) :
    ∃ b o, (∀ m u, (c l[j])[m]? = some u → w.cell? ⟨b, o + m, none⟩ = some u) ∧ b < w.heap.size ∧
      ∀ (w1 : World) (K : Value → World → Prop) (X : List PanicEntry → World → Prop), DoV P (Instr.indexAt T v (.int k j)) w1 K X = K (.pointer (some ⟨b, o, none⟩)) w1 := by
  obtain ⟨b, o, hcell, hb, hix⟩ := h.index hT hi hsz (k := k) hj hpos
  exact ⟨b, o + j * sz, fun m u hu => by rw [Nat.add_assoc]; exact hcell _ _ (fl_get hc hj hu), hb, hix⟩
theorem app_el {α : Type} {c : α → List Value} {base : Nat} {T e : TypeId} {ty : TypeId} {cs : Array Bool} {i : TypeInfo} {z : Value} {sz bytes : Nat} (hT : P.underlying T = some (.slice e)) (hi : P.info? e = some i) (hz : i.zero = some z)
    (hsz : i.size = sz) (hby : i.bytes = bytes) (hzs : z.cells.size = sz) (hpos : 0 < sz) (hsm : sz ≤ 1000) (hc : ∀ a, (c a).length = sz) (h1 : ∀ a, ∀ u ∈ c a, u.oneCell' = true)
    {v x : Value} {l : List α} {a : α} (hx : x.cells = (c a).toArray) (hown : w.ownsRow base e sz v l.length (fl c l)) (hb : (l.length + 1) * bytes ≤ 140737488355328) (h63 : l.length + 1 ≤ 140737488355328) (hbase : base ≤ w.heap.size)
    (hk : ∀ v' w1, w1.ownsRow base e sz v' (l ++ [a]).length (fl c (l ++ [a])) → Mod (base ≤ ·) w w1 → K v' w1) :
    DoV P (Instr.buildSlice T 1 #[(0, x)]) w (fun s w1 => CallB P .append #[T, T] ty cs #[v, s] w1 K X) X := by
  have e1 := run_buildSlice (P := P) w T e 1 #[(0, x)] (c a).toArray i z hT hi hz (by rw [hsz]; omega) (by rw [hsz]; omega) (by
    obtain ⟨r, hr, hsz2, hkk⟩ := Great.fill_dense (s := i.size) (by omega) [x] 0 ((Array.range (1 * i.size)).map (z.cells[· % z.cells.size]!)) (fun v hv => by simp only [List.mem_singleton] at hv; subst hv; rw [hx, hsz]; simpa using hc a) (by simp)
    have e2 : (#[(0, x)] : Array (Nat × Value)).toList = ([x].zipIdx 0).map fun y => (y.2, y.1) := rfl
    rw [e2, hr]
    congr 1
    apply Array.ext_getElem?
    intro k
    rw [hkk k]
    by_cases hlt : k < sz
    · rw [if_pos (by simp; omega)]
      have hd : k / i.size = 0 := by rw [hsz]; exact Nat.div_eq_of_lt hlt
      have hm : k % i.size = k := by rw [hsz]; exact Nat.mod_eq_of_lt hlt
      simp [hd, hm, hx]
    · have hcl := hc a
      rw [if_neg (by simp; omega)]
      rw [Array.getElem?_eq_none (by simp; omega), Array.getElem?_eq_none (by simp; omega)])
  rw [DoV_ok e1]
  have x1 : Ext w (w.alloc (.cells (c a).toArray e)) := Ext.alloc _ _
  have hat : At (w.alloc (.cells (c a).toArray e)) w.heap.size (.cells (c a).toArray e (0, 0)) := by unfold At; exact heap_alloc_new w _
  have hsl : Sl (w.alloc (.cells (c a).toArray e)) sz (.slice (some ⟨w.heap.size, 0, none⟩) 1 1) 1 (c a) :=
    ⟨_, 1, rfl, Nat.le_refl _, by simp [maxLen], by rw [hc]; omega, .inr ⟨_, 0, rfl, hat.lt, fun j u hu => by rw [hat.cell, Nat.zero_add]; simpa using hu⟩⟩
  refine app_own hT hi hz hsz hby hzs hpos (Own.ext hown x1) hsl (h1 a) hb h63 (by have := x1.size; omega) fun v' w2 h2 hm _ => ?_
  refine hk v' w2 (by rw [fl_append]; simpa [fl] using h2) ((Mod.of_ext (S := fun _ => False) x1).comp hm (fun _ _ h => h.elim) fun k hk h => (Own.block hown h).1)
theorem box_i {t : TypeId} {v : Value} (hk : ∀ b w1, Ext w w1 → At w1 b (.cells v.cells t (0, 0)) → w.heap.size = b → w1.heap.size = b + 1 → K (.pointer (some ⟨b, 0, none⟩)) w1) : DoV P (Instr.box t v) w K X := by
  have e : (Instr.box t v).run P w = .ok (.pointer (some ⟨w.heap.size, 0, none⟩)) (w.alloc (.cells v.cells t)) := by
    simp [Instr.box, newVar, newRow, newObj, Sem.run]
  rw [DoV_ok e]
  exact hk _ _ (Ext.alloc _ _) (by unfold At; exact heap_alloc_new w _) rfl (by simp)
theorem load_e {t : TypeId} {b o : Nat} {cs : Array Value} {e : TypeId} {f : Nat × Nat} {u : Value} (ht : ∀ w, (isAgg t).run P w = .ok false w) (h : At w b (.cells cs e f)) (hu : cs[o]? = some u) :
    DoV P (Instr.loadAt t (.pointer (some ⟨b, o, none⟩))) w K X = K u w := load_cell ht (by rw [h.cell]; exact hu)
theorem trod_list {H : Type} {enc : TypeId × Value → H} {α : Type} [Inhabited α] {c : α → List Value} {sz : Nat} {Q : α → Prop} {t e : TypeId} {fuel : Nat} {v : Value} {x : DataW H × List MemPlace} (ht : P.underlying t = some (.slice e)) (hce : P.cellsOf e = sz) (hpos : 0 < sz)
    (h : DataW.trod enc P w 0 (fun _ => true) true fuel t [v] = some x) (hel : ∀ (fuel : Nat) (cs : List Value) (x : DataW H × List MemPlace), DataW.trod enc P w 0 (fun _ => true) true fuel e cs = some x → ∃ a, cs = c a ∧ Q a) :
    ∃ l : List α, Sl w sz v l.length (fl c l) ∧ ∀ a ∈ l, Q a := by
  obtain ⟨n, xs, hs, he⟩ := trod_sl ht hce hpos h
  have hxl := hs.length
  obtain ⟨l, hl, hR⟩ := pick_list (n := n) (R := fun i a => (xs.drop (i * sz)).take sz = c a ∧ Q a) fun i hi => by
    obtain ⟨m, y, hy⟩ := he i hi
    exact hel _ _ _ hy
  have e1 : ∀ k, k ≤ n → xs.take (k * sz) = fl c (l.take k) := by
    intro k
    induction k with
    | zero => intro _; simp [fl]
    | succ k ih =>
      intro hk
      have h2 := hR k l[k] (List.getElem?_eq_getElem (by omega))
      rw [List.take_succ_eq_append_getElem (by omega), fl_append, ← ih (by omega), Nat.add_mul, Nat.one_mul, List.take_add, h2.1]
      simp [fl]
  have e2 := e1 n (Nat.le_refl _)
  rw [List.take_of_length_le (by omega), List.take_of_length_le (by omega)] at e2
  subst e2
  refine ⟨l, by rw [hl]; exact hs, fun a ha => ?_⟩
  obtain ⟨i, hi⟩ := List.getElem?_of_mem ha
  exact (hR i a hi).2
end Sh
end Go.Proofs.YtoeblipchoglaaaGreatDoor

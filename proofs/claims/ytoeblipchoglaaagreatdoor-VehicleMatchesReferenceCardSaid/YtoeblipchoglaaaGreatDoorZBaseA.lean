/- Single operations as the laid-out code has them, and what each gives. -/
import Derived.Test.YtoeblipchoglaaaGreatDoorZSh
import Derived.WalkKit
import Derived.WalkSpells
import Derived.WalkLawsBesides
import Derived.Below
import Derived.OneCell
import Derived.Recover
namespace Go.Proofs.YtoeblipchoglaaaGreatDoor
set_option maxRecDepth 100000
namespace Sh

def Pan (R : Ending → World → Prop) : List PanicEntry → World → Prop := fun ch w => R (.panicked ch) w
def PanD (P : Program) (fn : Func) (vs : List (Nat × Value)) (R : Ending → World → Prop) (ds : List Deferred) : List PanicEntry → World → Prop := fun ch w => LeavesE P fn vs R ds (.panicking ch) w
def NoX : List PanicEntry → World → Prop := fun _ _ => False
end Sh
end Go.Proofs.YtoeblipchoglaaaGreatDoor
namespace Go.Proofs.YtoeblipchoglaaaGreatDoor
set_option maxRecDepth 100000
namespace Sh
open Go.RowKit
variable {P : Program} {w w' : World} {K : Value → World → Prop} {X : List PanicEntry → World → Prop}

theorem DoV_ok {s : Sem Value} {v : Value} (h : s.run P w = .ok v w') : DoV P s w K X = K v w' := by
  simp [DoV, Do, vS, h]
theorem DoU_ok {s : Sem Unit} (h : s.run P w = .ok () w') : DoU P s w K X = K undef w' := by
  simp [DoU, Do, uS, h]
theorem DoV_panic {s : Sem Value} {v : Value} (h : s.run P w = .halt (.panic v) w') : DoV P s w K X = X [{ v, recovered := false }] w' := by
  simp [DoV, Do, vS, h]
theorem DoV_i {s : Sem Value} {v : Value} (h : s.run P w = .ok v w') (hk : K v w') : DoV P s w K X := by rw [DoV_ok h]; exact hk
section bin
variable {t : TypeId} {ox oy : Operand} {k : IntKind} {a b : Int}
theorem bin_add : DoV P (binS .add t ox oy (.int k a) (.int k b)) w K X = K (.int k (k.wrap (a + b))) w := DoV_ok (by simp [binS, eqGuard, binOp, Op.intArith])
theorem bin_sub : DoV P (binS .sub t ox oy (.int k a) (.int k b)) w K X = K (.int k (k.wrap (a - b))) w := DoV_ok (by simp [binS, eqGuard, binOp, Op.intArith])
theorem bin_mul : DoV P (binS .mul t ox oy (.int k a) (.int k b)) w K X = K (.int k (k.wrap (a * b))) w := DoV_ok (by simp [binS, eqGuard, binOp, Op.intArith])
theorem bin_lss : DoV P (binS .lss t ox oy (.int k a) (.int k b)) w K X = K (.bool (decide (a < b))) w := DoV_ok (by simp [binS, eqGuard, binOp, Op.intCmp])
theorem bin_leq : DoV P (binS .leq t ox oy (.int k a) (.int k b)) w K X = K (.bool (decide (a ≤ b))) w := DoV_ok (by simp [binS, eqGuard, binOp, Op.intCmp])
theorem bin_gtr : DoV P (binS .gtr t ox oy (.int k a) (.int k b)) w K X = K (.bool (decide (b < a))) w := DoV_ok (by simp [binS, eqGuard, binOp, Op.intCmp])
theorem bin_geq : DoV P (binS .geq t ox oy (.int k a) (.int k b)) w K X = K (.bool (decide (b ≤ a))) w := DoV_ok (by simp [binS, eqGuard, binOp, Op.intCmp])
theorem bin_eql : DoV P (binS .eql t ox oy (.int k a) (.int k b)) w K X = K (.bool (decide (a = b))) w := DoV_ok (by
  simp [binS, eqGuard, binOp, Op.intCmp]; exact Bool.beq_eq_decide_eq a b)
theorem bin_neq : DoV P (binS .neq t ox oy (.int k a) (.int k b)) w K X = K (.bool (!decide (a = b))) w := DoV_ok (by
  simp [binS, eqGuard, binOp, Op.intCmp, bne]; exact Bool.beq_eq_decide_eq a b)
theorem bin_and : DoV P (binS .and t ox oy (.int k a) (.int k b)) w K X = K (.int k (k.wrap (BitVec.ofInt k.bits a &&& BitVec.ofInt k.bits b).toNat)) w := DoV_ok (by simp [binS, eqGuard, binOp, Op.intBits])
theorem bin_or : DoV P (binS .or t ox oy (.int k a) (.int k b)) w K X = K (.int k (k.wrap (BitVec.ofInt k.bits a ||| BitVec.ofInt k.bits b).toNat)) w := DoV_ok (by simp [binS, eqGuard, binOp, Op.intBits])
theorem bin_xor : DoV P (binS .xor t ox oy (.int k a) (.int k b)) w K X = K (.int k (k.wrap (BitVec.ofInt k.bits a ^^^ BitVec.ofInt k.bits b).toNat)) w := DoV_ok (by simp [binS, eqGuard, binOp, Op.intBits])
theorem bin_quo (h : b ≠ 0) : DoV P (binS .quo t ox oy (.int k a) (.int k b)) w K X = K (.int k (k.wrap (a.tdiv b))) w := DoV_ok (by simp [binS, eqGuard, binOp, Op.intDiv, h])
theorem bin_rem (h : b ≠ 0) : DoV P (binS .rem t ox oy (.int k a) (.int k b)) w K X = K (.int k (a.tmod b)) w := DoV_ok (by simp [binS, eqGuard, binOp, Op.intDiv, h])
theorem bin_shl {k' : IntKind} (h : 0 ≤ b) : DoV P (binS .shl t ox oy (.int k a) (.int k' b)) w K X = K (.int k (k.wrap (a * 2 ^ min b.toNat k.bits))) w :=
  DoV_ok (by simp [binS, eqGuard, binOp, Op.shift, show ¬ b < 0 by omega])
theorem bin_shr {k' : IntKind} (h : 0 ≤ b) : DoV P (binS .shr t ox oy (.int k a) (.int k' b)) w K X = K (.int k (a.fdiv (2 ^ min b.toNat k.bits))) w :=
  DoV_ok (by simp [binS, eqGuard, binOp, Op.shift, show ¬ b < 0 by omega])
theorem un_not {x : Bool} : DoV P (Op.unary .not (.bool x)) w K X = K (.bool (!x)) w := DoV_ok rfl
theorem bin_str_eql {x y : ByteArray} : DoV P (binS .eql t ox oy (.string x) (.string y)) w K X = K (.bool (x.toList == y.toList)) w := DoV_ok (by simp [binS, eqGuard, binOp, Op.stringOp])
theorem conv_int {s d : TypeId} {ks kd : IntKind} (hs : P.underlying s = some (.int ks)) (hd : P.underlying d = some (.int kd)) {n : Int} {k : IntKind} :
    DoV P (convert s d (.int k n)) w K X = K (.int kd (kd.wrap n)) w := DoV_ok (by simp [convert, run_underlying hs, run_underlying hd, Conv.intToInt])
theorem ext_tuple {vs : Array Value} {i : Nat} {v : Value} (h : vs[i]? = some v) : DoV P (Instr.extract (.tuple vs) i) w K X = K v w := DoV_ok (by simp [Instr.extract, h])
theorem ext2_0 {a b : Value} : DoV P (Instr.extract (.tuple #[a, b]) 0) w K X = K a w := ext_tuple rfl
theorem ext2_1 {a b : Value} : DoV P (Instr.extract (.tuple #[a, b]) 1) w K X = K b w := ext_tuple rfl
theorem ext3_0 {a b c : Value} : DoV P (Instr.extract (.tuple #[a, b, c]) 0) w K X = K a w := ext_tuple rfl
theorem ext3_1 {a b c : Value} : DoV P (Instr.extract (.tuple #[a, b, c]) 1) w K X = K b w := ext_tuple rfl
theorem ext3_2 {a b c : Value} : DoV P (Instr.extract (.tuple #[a, b, c]) 2) w K X = K c w := ext_tuple rfl
theorem len_slice {T e : TypeId} {ty : TypeId} {cs : Array Bool} (h : P.underlying T = some (.slice e)) {a : Option Addr} {n c : Nat} :
    CallB P .len #[T] ty cs #[.slice a n c] w K X = K (.int .i64 n) w := by
  simp [CallB, Do, builtin, Builtin.len_, run_underlying h, goInt]
theorem len_string {T : TypeId} {ty : TypeId} {cs : Array Bool} (h : P.underlying T = some .string) {s : ByteArray} :
    CallB P .len #[T] ty cs #[.string s] w K X = K (.int .i64 s.size) w := by
  simp [CallB, Do, builtin, Builtin.len_, run_underlying h, goInt]
theorem mk_func {fn : Fn} {f c : Array Value} : DoV P (Instr.makeFunc fn f c) w K X = K (.func fn f c) w := DoV_ok rfl
theorem callV_func {f : FuncId} {first captured args : Array Value} (h : goes P f = true) : CallV P (.func (.func f) first captured) args w K X = CallF P f (first ++ args ++ captured) w K X := by
  simp [CallV, Do, Deferred.ofValue, invoke, run_goes h, CallF]
end bin
theorem callF_of {f : FuncId} {args : Array Value} {R : Ending → World → Prop} (h : Calls P f args w R)
    (hr : ∀ v w', R (.returned v) w' → K v w') (hp : ∀ ch w', R (.panicked ch) w' → X ch w') (ho : ∀ w', ¬ R .outgrown w') : CallF P f args w K X :=
  Calls.mono h fun e w' he => by
    cases e with
    | returned v => exact hr v w' he
    | panicked ch => exact hp ch w' he
    | outgrown => exact absurd he (ho w')
def Ret (P : Program) (f : FuncId) (args : Array Value) (w : World) (Q : Value → World → Prop) : Prop :=
  Calls P f args w fun e w' => match e with | .returned v => Q v w' | _ => False
theorem callF_ret {f : FuncId} {args : Array Value} {Q : Value → World → Prop} (h : Ret P f args w Q) (hk : ∀ v w', Q v w' → K v w') : CallF P f args w K X :=
  callF_of h (fun v w' h => hk v w' h) (fun _ _ h => h.elim) (fun _ h => h)
theorem callF_same {f : FuncId} {args : Array Value} {c : Value} (h : Ret P f args w fun r w' => r = c ∧ w' = w) (hk : K c w) : CallF P f args w K X :=
  callF_ret h fun _ _ hh => by rw [hh.1, hh.2]; exact hk
theorem Ret.mono {f : FuncId} {args : Array Value} {Q Q' : Value → World → Prop} (h : Ret P f args w Q) (hk : ∀ v w', Q v w' → Q' v w') : Ret P f args w Q' :=
  Calls.mono h fun e w' he => by cases e <;> first | exact hk _ _ he | exact he

theorem ret_of {f : FuncId} {args : Array Value} {Q : Value → World → Prop} {F : (Ending → World → Prop) → World → Prop} (hF : ∀ R w, F R w → Calls P f args w R)
    (h : ∀ R : Ending → World → Prop, (∀ v w', Q v w' → R (.returned v) w') → F R w) : Ret P f args w Q :=
  hF _ _ (h _ fun _ _ hq => hq)
theorem det_pure {St Dn : World → World → Prop} {w0 : World} {op : World → (Value → World → Prop) → Prop} {rest : Value → (World → Prop) → Prop} (c : Value) (hr : ∀ a, Dn a a) (h : ∀ w1, St w0 w1 → ∀ K : Value → World → Prop, K c w1 → op w1 K) (hk : rest c fun _ => True) : DetOp St Dn w0 op rest :=
  ⟨c, fun _ => True, fun _ _ _ _ => trivial, fun w1 h1 => h w1 h1 _ ⟨rfl, hr _, trivial⟩, hk⟩
theorem loop1 {i : Nat} {a : Value} {body : (Nat → Value) → World → (List Value → World → Prop) → Prop} (I : Value → World → Prop) (μ : Value → World → Nat) (h0 : I a w)
    (hs : ∀ h x w1, h i = x → I x w1 → ∀ K : List Value → World → Prop, (∀ x' w2, I x' w2 → μ x' w2 < μ x w1 → K [x'] w2) → body h w1 K) : LoopE [i] [a] w body :=
  ⟨fun l w => ∃ x, l = [x] ∧ I x w, fun l w => match l with | [x] => μ x w | _ => 0, ⟨a, rfl, h0⟩, fun h w1 ⟨x, hx, hI⟩ => by
    simp only [List.map_cons, List.map_nil, List.cons.injEq, and_true] at hx
    subst hx
    exact hs h _ w1 rfl hI _ fun x' w2 h1 h2 => ⟨⟨x', rfl, h1⟩, h2⟩⟩
theorem loop2 {i j : Nat} {a b : Value} {body : (Nat → Value) → World → (List Value → World → Prop) → Prop} (I : Value → Value → World → Prop) (μ : Value → Value → World → Nat) (h0 : I a b w)
    (hs : ∀ h x y w1, h i = x → h j = y → I x y w1 → ∀ K : List Value → World → Prop, (∀ x' y' w2, I x' y' w2 → μ x' y' w2 < μ x y w1 → K [x', y'] w2) → body h w1 K) : LoopE [i, j] [a, b] w body :=
  ⟨fun l w => ∃ x y, l = [x, y] ∧ I x y w, fun l w => match l with | [x, y] => μ x y w | _ => 0, ⟨a, b, rfl, h0⟩, fun h w1 ⟨x, y, hx, hI⟩ => by
    simp only [List.map_cons, List.map_nil, List.cons.injEq, and_true] at hx
    obtain ⟨rfl, rfl⟩ := hx
    exact hs h _ _ w1 rfl rfl hI _ fun x' y' w2 h1 h2 => ⟨⟨x', y', rfl, h1⟩, h2⟩⟩
theorem loop3 {i j k : Nat} {a b c : Value} {body : (Nat → Value) → World → (List Value → World → Prop) → Prop} (I : Value → Value → Value → World → Prop) (μ : Value → Value → Value → World → Nat) (h0 : I a b c w)
    (hs : ∀ h x y z w1, h i = x → h j = y → h k = z → I x y z w1 → ∀ K : List Value → World → Prop, (∀ x' y' z' w2, I x' y' z' w2 → μ x' y' z' w2 < μ x y z w1 → K [x', y', z'] w2) → body h w1 K) : LoopE [i, j, k] [a, b, c] w body :=
  ⟨fun l w => ∃ x y z, l = [x, y, z] ∧ I x y z w, fun l w => match l with | [x, y, z] => μ x y z w | _ => 0, ⟨a, b, c, rfl, h0⟩, fun h w1 ⟨x, y, z, hx, hI⟩ => by
    simp only [List.map_cons, List.map_nil, List.cons.injEq, and_true] at hx
    obtain ⟨rfl, rfl, rfl⟩ := hx
    exact hs h _ _ _ w1 rfl rfl rfl hI _ fun x' y' z' w2 h1 h2 => ⟨⟨x', y', z', rfl, h1⟩, h2⟩⟩
theorem join0 {A : (List Value → World → Prop) → Prop} {B : (Nat → Value) → World → Prop} (J : World → Prop) (hB : ∀ h w', J w' → B h w') (hA : ∀ K : List Value → World → Prop, (∀ w', J w' → K [] w') → A K) : JoinE [] A B :=
  fun K hK => hA K fun w' hj => hK _ _ fun h _ => hB h w' hj
theorem join1 {i : Nat} {A : (List Value → World → Prop) → Prop} {B : (Nat → Value) → World → Prop} (J : Value → World → Prop) (hB : ∀ h x w', h i = x → J x w' → B h w')
    (hA : ∀ K : List Value → World → Prop, (∀ x w', J x w' → K [x] w') → A K) : JoinE [i] A B :=
  fun K hK => hA K fun x w' hj => hK _ _ fun h hh => hB h x w' (by simpa using hh) hj
theorem join2 {i j : Nat} {A : (List Value → World → Prop) → Prop} {B : (Nat → Value) → World → Prop} (J : Value → Value → World → Prop) (hB : ∀ h x y w', h i = x → h j = y → J x y w' → B h w')
    (hA : ∀ K : List Value → World → Prop, (∀ x y w', J x y w' → K [x, y] w') → A K) : JoinE [i, j] A B :=
  fun K hK => hA K fun x y w' hj => hK _ _ fun h hh => by
    simp only [List.map_cons, List.map_nil, List.cons.injEq, and_true] at hh
    exact hB h x y w' hh.1 hh.2 hj
theorem join3 {i j k : Nat} {A : (List Value → World → Prop) → Prop} {B : (Nat → Value) → World → Prop} (J : Value → Value → Value → World → Prop) (hB : ∀ h x y z w', h i = x → h j = y → h k = z → J x y z w' → B h w')
    (hA : ∀ K : List Value → World → Prop, (∀ x y z w', J x y z w' → K [x, y, z] w') → A K) : JoinE [i, j, k] A B :=
  fun K hK => hA K fun x y z w' hj => hK _ _ fun h hh => by
    simp only [List.map_cons, List.map_nil, List.cons.injEq, and_true] at hh
    exact hB h x y z w' hh.1 hh.2.1 hh.2.2 hj
abbrev Ext (w w' : World) : Prop := Below w.heap.size w w'
theorem Ext.refl (w : World) : Ext w w := Below.refl _ _
theorem Ext.trans {a b c : World} (h : Ext a b) (h' : Ext b c) : Ext a c := Below.trans h (h'.mono h.size)
theorem Ext.alloc (w : World) (o : Obj) : Ext w (w.alloc o) := (Below.refl _ _).alloc (Nat.le_refl _) o
theorem Ext.drew (w : World) : Ext w w.drew := (Below.refl _ _).drew

theorem draw_ext {body : (World → World → Prop) → (World → World → Prop) → World → Prop} (h : ∀ w1, Ext w w1 → body Ext Ext w1) : DrawE w body :=
  ⟨Ext, Ext, ⟨Ext.refl, fun _ _ _ => Ext.trans, fun _ _ h => h, fun _ _ _ => Ext.trans⟩, h _ (Ext.drew w)⟩
theorem cell_ext {g o : Nat} {u : Value} (h : w.cell? ⟨g, o, none⟩ = some u) (hg : g < w.heap.size) (he : Ext w w') : w'.cell? ⟨g, o, none⟩ = some u := by
  rw [World.cell?_of_block (w := w) (he.block _ hg)]; exact h
def Rd (w : World) (a : Option Addr) (xs : List Value) : Prop :=
  xs = [] ∨ ∃ b o, a = some ⟨b, o, none⟩ ∧ b < w.heap.size ∧ ∀ j u, xs[j]? = some u → w.cell? ⟨b, o + j, none⟩ = some u
theorem Rd.nil (w : World) (a : Option Addr) : Rd w a [] := .inl rfl
theorem Rd.same {a : Option Addr} {xs : List Value} (h : Rd w a xs) (hs : w.heap.size ≤ w'.heap.size) (hb : ∀ b o, a = some ⟨b, o, none⟩ → b < w.heap.size → w'.heap[b]? = w.heap[b]?) : Rd w' a xs := by
  rcases h with h | ⟨b, o, rfl, hlt, hc⟩
  · exact .inl h
  · refine .inr ⟨b, o, rfl, by omega, fun j u hu => ?_⟩
    rw [World.cell?_of_block (w := w) (w' := w') (a := ⟨b, o + j, none⟩) (hb b o rfl hlt)]
    exact hc j u hu
theorem Rd.ext {a : Option Addr} {xs : List Value} (h : Rd w a xs) (he : Ext w w') : Rd w' a xs := h.same he.size fun b _ _ hlt => he.block b hlt

def Sl (w : World) (sz : Nat) (v : Value) (n : Nat) (xs : List Value) : Prop :=
  ∃ a cap, v = .slice a n cap ∧ n ≤ cap ∧ cap ≤ maxLen ∧ xs.length = n * sz ∧ Rd w a xs
theorem Sl.ext {sz n : Nat} {v : Value} {xs : List Value} (h : Sl w sz v n xs) (he : Ext w w') : Sl w' sz v n xs := by
  obtain ⟨a, cap, rfl, h1, h2, h3, h4⟩ := h
  exact ⟨a, cap, rfl, h1, h2, h3, h4.ext he⟩
theorem Sl.nil (w : World) (sz : Nat) : Sl w sz (.slice none 0 0) 0 [] := ⟨none, 0, rfl, Nat.le_refl _, Nat.zero_le _, by simp, Rd.nil _ _⟩
theorem Sl.le {sz n : Nat} {v : Value} {xs : List Value} (h : Sl w sz v n xs) : n ≤ 9223372036854775807 := by
  obtain ⟨a, cap, rfl, h1, h2, h3, h4⟩ := h
  simp only [maxLen] at h2; omega
theorem Sl.len {sz n : Nat} {v : Value} {xs : List Value} (h : Sl w sz v n xs) {T e : TypeId} {ty : TypeId} {cs : Array Bool} (hT : P.underlying T = some (.slice e)) :
    CallB P .len #[T] ty cs #[v] w K X = K (.int .i64 n) w := by
  obtain ⟨a, cap, rfl, _⟩ := h
  exact len_slice hT
theorem Sl.of_owns {base : Nat} {e : TypeId} {sz n : Nat} {v : Value} {xs : List Value} (h : w.ownsRow base e sz v n xs) : Sl w sz v n xs := by
  obtain ⟨h1, h2⟩ := h
  rcases h2 with ⟨rfl, rfl⟩ | ⟨g, cap, cur, rfl, hb, hg, hn, hc, hs, ht⟩
  · exact ⟨none, 0, rfl, Nat.le_refl _, Nat.zero_le _, h1, .inl (List.eq_nil_of_length_eq_zero (by simpa using h1))⟩
  · refine ⟨_, cap, rfl, hn, hc, h1, .inr ⟨g, 0, rfl, (Array.getElem?_eq_some_iff.1 hg).1, fun j u hu => ?_⟩⟩
    rw [← ht, List.getElem?_take] at hu
    split at hu
    · simp only [World.cell?, hg, Nat.zero_add]
      simpa using hu
    · cases hu
theorem Sl.index {sz n : Nat} {v : Value} {xs : List Value} (h : Sl w sz v n xs) {T e : TypeId} (hT : P.underlying T = some (.slice e)) {i : TypeInfo} (hi : P.info? e = some i) (hsz : i.size = sz)
    {k : IntKind} {j : Nat} (hj : j < n) (hpos : 0 < sz) : ∃ b o, (∀ m u, xs[m]? = some u → w.cell? ⟨b, o + m, none⟩ = some u) ∧ b < w.heap.size ∧
      ∀ (w1 : World) (K : Value → World → Prop) (X : List PanicEntry → World → Prop), DoV P (Instr.indexAt T v (.int k j)) w1 K X = K (.pointer (some ⟨b, o + j * sz, none⟩)) w1 := by
  obtain ⟨a, cap, rfl, h1, h2, h3, h4⟩ := h
  rcases h4 with h4 | ⟨b, o, rfl, hlt, hc⟩
  · subst h4
    have : n * sz = 0 := by simpa using h3.symm
    have : 0 < n * sz := Nat.mul_pos (by omega) hpos
    omega
  · refine ⟨b, o, hc, hlt, fun w1 K X => DoV_ok ?_⟩
    have hadd : (⟨b, o, none⟩ : Addr).add (j * sz) = ⟨b, o + j * sz, none⟩ := by unfold Addr.add; split <;> simp_all
    simp [Instr.indexAt, asIntOf, run_underlying hT, sizeOf, typeInfo, hi, hsz, hj, hadd]
theorem load_cell {t : TypeId} {a : Addr} {u : Value} (ht : ∀ w, (isAgg t).run P w = .ok false w) (h : w.cell? a = some u) : DoV P (Instr.loadAt t (.pointer (some a))) w K X = K u w :=
  DoV_ok (by simp [Instr.loadAt, Instr.sureAddr, loadVar, ht, load, Sem.run, h])
end Sh
end Go.Proofs.YtoeblipchoglaaaGreatDoor
namespace Go.Proofs.YtoeblipchoglaaaGreatDoor
set_option maxRecDepth 100000
namespace Sh
def recV : FrameMode → Value
  | .panicking ({ v, recovered := false, goexit := false } :: _) => v
  | _ => .nilIface
def recM : FrameMode → FrameMode
  | .panicking ({ v, recovered := false, goexit := false } :: older) => .panicking ({ v, recovered := true } :: older)
  | u => u
theorem recoverD_eq {c : Frame} {cs : List Frame} {u : FrameMode} (h : c.mode = u) : (∃ cs', recoverD (c :: cs) = some (recV u, cs') ∧ cs' = { c with mode := recM u } :: cs) ∨ (recoverD (c :: cs) = none ∧ recV u = .nilIface ∧ recM u = u) := by
  subst h
  simp only [recoverD]
  split
  · rename_i v older hm
    rw [hm]
    exact .inl ⟨_, rfl, rfl⟩
  · rename_i hn
    refine .inr ⟨rfl, ?_, ?_⟩
    · unfold recV; split
      · rename_i hm; exact absurd hm (hn _ _)
      · rfl
    · unfold recM; split
      · rename_i hm; exact absurd hm (hn _ _)
      · rfl
def endR (R : Ending → World → Prop) : Post := fun e _ ds w => (fun _ : Prop => match e, ds with
  | .normal, [] | .ret, [] => R (.returned (.tuple #[])) w
  | .panic ch, [] => R (.panicked ch) w
  | _, _ => False) tall
theorem callsD_of_rec {P : Program} {f : FuncId} {fn : Func} {id d : Nat} {o : Oper} {c : Code} {args : List Value} {u : FrameMode} {w : World} {R : Ending → World → Prop} (dr : List (Nat × Nat × Bool × Nat)) (vars : List Nat) (hm : P.follows .mixedOrders = true)
    (hf : P.funcs[f]? = some fn) (hb : fn.body = some (.seq (.region id #[o] false) c)) (hres : fn.results = #[]) (hex : ∀ a w, (execOp a o).run P w = .ok .recover w) (hog : o.guard = none) (hod : o.dst = some d) (hd : d < fn.ntmps) (hn : args.length ≤ fn.ntmps) (ok : codeOk fn.ntmps [] dr c = true)
    (h : vc P dr vars c (endR R) ((d, some (recV u)) :: argsE args) [] w) : CallsD P f args.toArray u w fun e u' w' => u' = recM u ∧ R e w' := by
  refine callsD_of_wpS hf hb fun c₀ cs hu => wpS_seq (wpS_region ?_)
  have hr : List.range (#[o] : Array Oper).size = [0] := rfl
  have hag := (agree_args args fn.ntmps hn []).put (some d) (fun t ht => by cases ht; exact hd) (recV u)
  rw [hr]
  have rest : ∀ cs', cs' = { c₀ with mode := recM u } :: cs → c.wpS P (bodyPostS P fn c₀ cs fun e u' w' => u' = recM u ∧ R e w') (({ tmps := args.toArray ++ Array.replicate (fn.ntmps - args.toArray.size) undef, defers := [] } : Act).put (some d) (recV u)) cs' w := fun cs' hcs => by
    subst hcs
    refine wpS_of_wp (wpIn_wide (n := 0).1 <| vc_sound hm c none _ _ _ _ _ _ (.inl rfl) ok (fun _ _ _ ds _ _ h => by cases ds <;> exact h) hag rfl (fun e E' a' ds' w' ha hdf hq => ?_) h)
    have hv : (results fn a'.tmps).run P w' = .ok (.tuple #[]) w' := by simp [results, hres]
    cases e with
    | normal => cases ds' <;> first | exact ⟨hdf, _, rfl, _, hv, rfl, hq⟩ | exact hq.elim
    | ret => cases ds' <;> first | exact ⟨hdf, _, rfl, _, hv, rfl, hq⟩ | exact hq.elim
    | panic ch => cases ds' <;> first | exact ⟨hdf, _, rfl, rfl, hq⟩ | exact hq.elim
    | _ => exact hq.elim
  simp only [wpOpsS, List.getElem?_toArray, List.getElem?_cons_zero, Region.wanted, hog, if_true, hex, hod]
  rcases recoverD_eq (cs := cs) hu with ⟨cs', h1, h2⟩ | ⟨h1, h2, h3⟩
  · rw [h1]; exact rest cs' h2
  · rw [h1]
    have := rest (c₀ :: cs) (by rw [h3, ← hu])
    rw [h2] at this
    exact this
theorem callsD_of_rec2 {P : Program} {f : FuncId} {fn : Func} {id d d2 : Nat} {o o2 : Oper} {c : Code} {args : List Value} {u : FrameMode} {w : World} {R : Ending → World → Prop} (dr : List (Nat × Nat × Bool × Nat)) (vars : List Nat) (hm : P.follows .mixedOrders = true)
    (hf : P.funcs[f]? = some fn) (hb : fn.body = some (.seq (.region id #[o, o2] false) c)) (hres : fn.results = #[]) (hex : ∀ a w, (execOp a o).run P w = .ok .recover w) (hex2 : ∀ a w, (execOp a o2).run P w = .ok (.value (a (.tmp d))) w) (hog : o.guard = none) (hod : o.dst = some d) (hog2 : o2.guard = none) (hod2 : o2.dst = some d2) (hd : d < fn.ntmps) (hd2 : d2 < fn.ntmps) (hn : args.length ≤ fn.ntmps) (ok : codeOk fn.ntmps [] dr c = true)
    (h : vc P dr vars c (endR R) ((d2, some (recV u)) :: (d, some (recV u)) :: argsE args) [] w) : CallsD P f args.toArray u w fun e u' w' => u' = recM u ∧ R e w' := by
  refine callsD_of_wpS hf hb fun c₀ cs hu => wpS_seq (wpS_region ?_)
  have hr : List.range (#[o, o2] : Array Oper).size = [0, 1] := rfl
  have hag1 := (agree_args args fn.ntmps hn []).put (some d) (fun t ht => by cases ht; exact hd) (recV u)
  have hag := hag1.put (some d2) (fun t ht => by cases ht; exact hd2) (recV u)
  rw [hr]
  have hev : (({ tmps := args.toArray ++ Array.replicate (fn.ntmps - args.toArray.size) undef, defers := [] } : Act).put (some d) (recV u)).eval (.tmp d) = recV u := by
    rw [hag1.eval]
    simp [ev, put, get, putO, getO]
  have rest : ∀ cs', cs' = { c₀ with mode := recM u } :: cs → c.wpS P (bodyPostS P fn c₀ cs fun e u' w' => u' = recM u ∧ R e w') ((({ tmps := args.toArray ++ Array.replicate (fn.ntmps - args.toArray.size) undef, defers := [] } : Act).put (some d) (recV u)).put (some d2) (recV u)) cs' w := fun cs' hcs => by
    subst hcs
    refine wpS_of_wp (wpIn_wide (n := 0).1 <| vc_sound hm c none _ _ _ _ _ _ (.inl rfl) ok (fun _ _ _ ds _ _ h => by cases ds <;> exact h) hag rfl (fun e E' a' ds' w' ha hdf hq => ?_) h)
    have hv : (results fn a'.tmps).run P w' = .ok (.tuple #[]) w' := by simp [results, hres]
    cases e with
    | normal => cases ds' <;> first | exact ⟨hdf, _, rfl, _, hv, rfl, hq⟩ | exact hq.elim
    | ret => cases ds' <;> first | exact ⟨hdf, _, rfl, _, hv, rfl, hq⟩ | exact hq.elim
    | panic ch => cases ds' <;> first | exact ⟨hdf, _, rfl, rfl, hq⟩ | exact hq.elim
    | _ => exact hq.elim
  simp only [wpOpsS, List.getElem?_toArray, List.getElem?_cons_zero, List.getElem?_cons_succ, Region.wanted, hog, hog2, if_true, hex, hex2, hod, hod2, Oper.upon]
  rcases recoverD_eq (cs := cs) hu with ⟨cs', h1, h2⟩ | ⟨h1, h2, h3⟩
  · rw [h1]
    simp only [hev]
    exact rest cs' h2
  · rw [h1]
    have := rest (c₀ :: cs) (by rw [h3, ← hu])
    have hev' := hev
    rw [h2] at this hev'
    simp only [hev']
    exact this
end Sh
end Go.Proofs.YtoeblipchoglaaaGreatDoor

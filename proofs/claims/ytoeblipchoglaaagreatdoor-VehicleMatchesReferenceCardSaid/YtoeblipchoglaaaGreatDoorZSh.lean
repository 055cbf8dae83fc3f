/- A walk over a function's code with its slots as bound variables: 'vc' lays a body out as a chain of single operations over values; 'calls_of_vc' gives -/
import Derived.Orders
import Derived.Defers
import Derived.Recover
import Derived.Tactics
import Derived.OrdersIn
import Derived.TacticsIn
import Derived.RangeFuncRecord
import Derived.RangeFuncLeaves
import Derived.Below
namespace Go.Proofs.YtoeblipchoglaaaGreatDoor
set_option maxRecDepth 100000
namespace Sh

abbrev Env := List (Nat × Option Value)
noncomputable def getO (E : Env) (t : Nat) : Option Value := List.rec none (fun kv _ ih => cond (Nat.beq t kv.1) kv.2 ih) E
theorem getO_cons (k : Nat) (v : Option Value) (r : Env) (t : Nat) : getO ((k, v) :: r) t = if t = k then v else getO r t := by
  show cond (Nat.beq t k) v (getO r t) = _
  by_cases h : t = k
  · subst h; simp
  · rw [if_neg h]
    have : Nat.beq t k = false := by
      cases hb : Nat.beq t k with
      | false => rfl
      | true => exact absurd (Nat.eq_of_beq_eq_true hb) h
    rw [this]; rfl
noncomputable def get (E : Env) (t : Nat) : Value := (getO E t).getD undef
theorem get_nil (t : Nat) : get [] t = undef := rfl
theorem get_cons (k : Nat) (v : Option Value) (r : Env) (t : Nat) : get ((k, v) :: r) t = if t = k then v.getD undef else get r t := by
  simp only [get, getO_cons]; split <;> rfl
noncomputable def ev (E : Env) : Operand → Value
  | .tmp t => get E t
  | .const v => v
  | .global g => .pointer (some ⟨g, 0, none⟩)
  | .func f => .func (.func f) #[] #[]
def putO (E : Env) : Option Tmp → Option Value → Env
  | some d, v => (d, v) :: E
  | none, _ => E
def put (E : Env) (d : Option Tmp) (v : Value) : Env := putO E d (some v)

structure Agree (n : Nat) (E : Env) (a : Act) : Prop where
  size : a.tmps.size = n
  val : ∀ t, a.tmps.getD t undef = get E t

theorem Agree.eval {n : Nat} {E : Env} {a : Act} (h : Agree n E a) : a.eval = ev E := by
  funext x
  cases x with
  | tmp t => exact h.val t
  | _ => rfl
theorem Agree.putO {n : Nat} {E : Env} {a : Act} (h : Agree n E a) (d : Option Tmp) (hd : ∀ t, d = some t → t < n) (v : Option Value) : Agree n (putO E d v) (a.put d (v.getD undef)) := by
  cases d with
  | none => exact h
  | some t =>
    have ht := hd t rfl
    refine ⟨by simp [Act.put, h.size], fun s => ?_⟩
    have hs := h.val s
    simp only [Act.put, Sh.putO, get_cons]
    by_cases hst : s = t
    · subst hst
      rw [if_pos rfl]
      simp [Array.getD_eq_getD_getElem?, h.size, ht]
    · rw [if_neg hst, ← hs]
      simp [Array.getD_eq_getD_getElem?, Ne.symm hst]
theorem Agree.put {n : Nat} {E : Env} {a : Act} (h : Agree n E a) (d : Option Tmp) (hd : ∀ t, d = some t → t < n) (v : Value) : Agree n (put E d v) (a.put d v) := h.putO d hd (some v)
theorem Agree.skip {n : Nat} {E : Env} {a : Act} (h : Agree n E a) (d : Option Tmp) (hd : ∀ t, d = some t → t < n) : Agree n (Sh.putO E d none) (a.put d undef) := h.putO d hd none
theorem Agree.defers {n : Nat} {E : Env} {a : Act} (h : Agree n E a) (ds : List Deferred) : Agree n E { a with defers := ds } := ⟨h.size, h.val⟩
theorem Agree.congr {n : Nat} {E E' : Env} {a : Act} (h : Agree n E a) (he : ∀ t, get E t = get E' t) : Agree n E' a := ⟨h.size, fun t => (h.val t).trans (he t)⟩

def WF (ρ : Option Nat) : Fence := { fn := fun _ => True, depth := none, alive := false, round := ρ }
theorem calls_wf {ρ : Option Nat} {n : Nat} {P : Program} {f : FuncId} {args : Array Value} {w : World} {R : Ending → World → Prop} : CallsIn (WF ρ) n P f args w R ↔ Calls P f args w R :=
  (show CallsIn (WF ρ) n P f args w R ↔ CallsIn Fence.wide n P f args w R from Iff.rfl).trans callsIn_wide
theorem round_wf {ρ : Option Nat} {n : Nat} {P : Program} {l : Nat} {f : FuncId} {tmps : Array Value} {assign body : Code} {w : World} {R : Ending → World → Prop} :
    RoundIn (WF ρ) n P l f tmps assign body w R ↔ RoundIn (WF none) n P l f tmps assign body w R := Iff.rfl
def Do (P : Program) (s : Sem Next) (w : World) (K : Value → World → Prop) (X : List PanicEntry → World → Prop) (D : Deferred → World → Prop) : Prop :=
  match s.run P w with
  | .ok (.value v) w' => K v w'
  | .ok .skip w' => K undef w'
  | .ok (.defer d) w' => D d w'
  | .ok (.enter f args) w' => Calls P f args w' fun
      | .returned v, w'' => K v w''
      | .panicked ch, w'' => X ch w''
      | .outgrown, _ => False
  | .ok (.round l f tmps assign body) w' => RoundIn (WF none) 0 P l f tmps assign body w' fun
      | .returned v, w'' => K v w''
      | .panicked ch, w'' => X ch w''
      | .outgrown, _ => False
  | .halt (.panic v) w' => X [{ v, recovered := false }] w'
  | _ => False

theorem Do.mono {P : Program} {s : Sem Next} {w : World} {K K' : Value → World → Prop} {X X' : List PanicEntry → World → Prop} {D D' : Deferred → World → Prop}
    (h : Do P s w K X D) (hk : ∀ v w, K v w → K' v w) (hx : ∀ c w, X c w → X' c w) (hd : ∀ c w, D c w → D' c w) : Do P s w K' X' D' := by
  unfold Do at *
  split <;> simp_all
  · refine Calls.mono h fun e w'' he => ?_
    cases e <;> simp_all
  · refine RoundIn.mono h fun e w'' he => ?_
    cases e <;> simp_all

def isDefer : Op → Bool
  | .defer _ => true
  | _ => false
def noD : Deferred → World → Prop := fun _ _ => False
def vS (s : Sem Value) : Sem Next := do pure (.value (← s))
def uS (s : Sem Unit) : Sem Next := do s; pure .skip
def DoV (P : Program) (s : Sem Value) (w : World) (K : Value → World → Prop) (X : List PanicEntry → World → Prop) : Prop := Do P (vS s) w K X noD
def DoU (P : Program) (s : Sem Unit) (w : World) (K : Value → World → Prop) (X : List PanicEntry → World → Prop) : Prop := Do P (uS s) w K X noD
def binS (op : BinOp) (t : TypeId) (ox oy : Operand) (x y : Value) : Sem Value := do eqGuard op t ox oy x y; binOp op t x y
def CallF (P : Program) (f : FuncId) (args : Array Value) (w : World) (K : Value → World → Prop) (X : List PanicEntry → World → Prop) : Prop :=
  Calls P f args w fun
    | .returned v, w'' => K v w''
    | .panicked ch, w'' => X ch w''
    | .outgrown, _ => False
def CallV (P : Program) (fv : Value) (args : Array Value) (w : World) (K : Value → World → Prop) (X : List PanicEntry → World → Prop) : Prop :=
  Do P (do let d ← Deferred.ofValue fv args; invoke d.target d.args) w K X noD
def CallB (P : Program) (b : Builtin) (ts : Array TypeId) (t : TypeId) (cs : Array Bool) (args : Array Value) (w : World) (K : Value → World → Prop) (X : List PanicEntry → World → Prop) : Prop :=
  Do P (builtin b ts t cs args) w K X noD
def CallI (P : Program) (name : String) (recv : Value) (args : Array Value) (w : World) (K : Value → World → Prop) (X : List PanicEntry → World → Prop) : Prop :=
  Do P (invoke (.fn (.method name) #[]) (#[recv] ++ args)) w K X noD
def nilS (x : Value) : Sem Next :=
  match x with
  | .pointer none | .nilIface | .nilFunc => runtimePanic .nilDeref
  | .func (.method name) first captured =>
    match (first[0]? : Option Value) with
    | some .nilIface => runtimePanic .nilDeref
    | some (.iface t w) => do
      if (← nilAhead ((← program).types.size + Made.depth) t w name) != some false then
        unsupported (.noEntry "op/nilCheck.the method's receiver behind this interface value is a nil pointer, or cannot be seen to be none, and the arguments act or may panic (ledger 612)")
      pure (.value (.func (.method name) first captured))
    | _ => pure (.value (.func (.method name) first captured))
  | x => pure (.value x)
def NilC (P : Program) (x : Value) (w : World) (K : Value → World → Prop) (X : List PanicEntry → World → Prop) : Prop := Do P (nilS x) w K X noD

def goes (P : Program) (f : FuncId) : Bool :=
  match P.funcs[f]? with
  | some fn => !(fn.name == "runtime.NumGoroutine") && !fn.body.isNone
  | none => false
theorem run_goes {P : Program} {f : FuncId} (h : goes P f = true) (args : Array Value) (w : World) : (callFunc f args).run P w = .ok (.enter f args) w := by
  unfold goes at h
  split at h
  · rename_i fn hf
    simp only [Bool.and_eq_true, Bool.not_eq_true'] at h
    have h1 : fn.name ≠ "runtime.NumGoroutine" := by simpa using h.1
    have h2 : fn.body ≠ none := fun e => by rw [e] at h; exact absurd h.2 (by simp)
    unfold callFunc
    simp [hf, h1, h2]
  · simp at h

def opP (P : Program) (ρ : Operand → Value) (o : Oper) (w : World) (K : Value → World → Prop) (X : List PanicEntry → World → Prop) (D : Deferred → World → Prop) : Prop :=
  match o.op with
  | .move x | .assign x => K (ρ x) w
  | .pick c a b =>
    (match ρ c with
    | .bool true => K (ρ a) w
    | .bool false => K (ρ b) w
    | _ => False)
  | .alloc elem => DoV P (Instr.alloc elem true (.tuple #[])) w K X
  | .box elem x => DoV P (Instr.box elem (ρ x)) w K X
  | .build t parts => DoV P (Instr.build t (parts.map fun (i, x) => (i, ρ x))) w K X
  | .buildSlice t len parts => DoV P (Instr.buildSlice t len (parts.map fun (i, x) => (i, ρ x))) w K X
  | .load t a => DoV P (Instr.loadAt t (ρ a)) w K X
  | .store t a x => DoU P (Instr.storeAt t (ρ a) (ρ x)) w K X
  | .ready g => DoU P (Instr.ready g) w K X
  | .waits g => DoV P (Instr.waits g) w K X
  | .nilCheck x => NilC P (ρ x) w K X
  | .binOp op t x y _ => DoV P (binS op t x y (ρ x) (ρ y)) w K X
  | .unOp op _ x => DoV P (Op.unary op (ρ x)) w K X
  | .convert src dst x => DoV P (convert src dst (ρ x)) w K X
  | .sliceToArrayPointer arr x => DoV P (Instr.arrayAt arr (ρ x)) w K X
  | .makeInterface t x => DoV P (Instr.makeInterface t (ρ x)) w K X
  | .makeFunc fn first captured => DoV P (Instr.makeFunc fn (first.map ρ) (captured.map ρ)) w K X
  | .makeMap t r => DoV P (Instr.makeMap t (r.map ρ)) w K X
  | .makeSlice t l c => DoV P (Instr.makeSlice t (ρ l) (ρ c)) w K X
  | .slice t x lo hi mx => DoV P (Instr.sliceAt t (ρ x) (lo.map ρ) (hi.map ρ) (mx.map ρ)) w K X
  | .fieldAddr s x f => DoV P (Instr.fieldAt s (ρ x) f) w K X
  | .field t x f => DoV P (Instr.field t (ρ x) f) w K X
  | .indexAddr t x ix => DoV P (Instr.indexAt t (ρ x) (ρ ix)) w K X
  | .index t x ix => DoV P (Instr.index t (ρ x) (ρ ix)) w K X
  | .lookup t x ix ok => DoV P (Instr.lookup t (ρ x) (ρ ix) ok) w K X
  | .mapUpdate t m k x | .insert t m k x => DoU P (Instr.mapUpdate t (ρ m) (ρ k) (ρ x)) w K X
  | .mapEntry t m k => DoV P (Instr.mapEntry t (ρ m) (ρ k)) w K X
  | .entryStore t m s x => DoU P (Instr.entryStore t (ρ m) (ρ s) (ρ x)) w K X
  | .range t x => DoV P (Instr.range t (ρ x)) w K X
  | .next it s => DoV P (Instr.next (ρ it) s o.type) w K X
  | .entry it => DoV P (Instr.entry (ρ it)) w K X
  | .typeAssert x t asserted ok => DoV P (Instr.typeAssert (ρ x) t asserted ok) w K X
  | .extract t ix => DoV P (Instr.extract (ρ t) ix) w K X
  | .panic x => DoV P (Instr.panic (ρ x)) w K X
  | .call c =>
    (match c.callee with
    | .value (.func f) => (match goes P f with | true => CallF P f (c.args.map ρ) w K X | false => False)
    | .value x => CallV P (ρ x) (c.args.map ρ) w K X
    | .builtin b => CallB P b c.argTypes o.type (c.args.map fun | .const _ => true | _ => false) (c.args.map ρ) w K X
    | .invoke r name => CallI P name (ρ r) (c.args.map ρ) w K X)
  | .defer c =>
    (match c.callee with
    | .value (.func f) => D { target := .fn (.func f) #[], args := c.args.map ρ } w
    | .value x => (match ρ x with | .func fn first captured => D { target := .fn fn captured, args := first ++ c.args.map ρ } w | _ => False)
    | _ => False)
  | _ => False

theorem Do.weaken {P : Program} {s : Sem Next} {w : World} {K : Value → World → Prop} {X : List PanicEntry → World → Prop} {D : Deferred → World → Prop} (h : Do P s w K X noD) : Do P s w K X D :=
  h.mono (fun _ _ h => h) (fun _ _ h => h) (fun _ _ h => h.elim)
theorem do_of_opP {P : Program} {E : Env} {o : Oper} {w : World} {K : Value → World → Prop} {X : List PanicEntry → World → Prop} {D : Deferred → World → Prop}
    (h : opP P (ev E) o w K X D) : Do P (execOp (ev E) o) w K X D := by
  obtain ⟨dst, op, type, pos, after, guard⟩ := o
  cases op <;> first | exact h.elim | exact Do.weaken h | exact h | skip
  case pick c a b =>
    simp only [opP] at h
    unfold Do execOp
    split at h <;> first | (rename_i hc; simp only [hc, asBool]; exact h) | exact h.elim
  case call c =>
    obtain ⟨callee, args, ts⟩ := c
    cases callee with
    | value x =>
      cases x with
      | func f =>
        simp only [opP] at h
        cases hg : goes P f with
        | false => rw [hg] at h; exact h.elim
        | true =>
          rw [hg] at h
          refine Do.weaken ?_
          unfold Do
          have e : (execOp (ev E) { dst := dst, op := .call { callee := .value (.func f), args := args, argTypes := ts }, type := type, pos := pos, after := after, guard := guard } : Sem Next).run P w = .ok (.enter f (args.map (ev E))) w := by
            simp [execOp, resolve, ev, Deferred.ofValue, invoke, run_goes hg]
          rw [e]; exact h
      | _ => exact Do.weaken h
    | builtin b => exact Do.weaken h
    | invoke r name => exact Do.weaken h
  case defer c =>
    obtain ⟨callee, args, ts⟩ := c
    cases callee with
    | value x =>
      cases x with
      | func f =>
        unfold Do
        have e : (execOp (ev E) { dst := dst, op := .defer { callee := .value (.func f), args := args, argTypes := ts }, type := type, pos := pos, after := after, guard := guard } : Sem Next).run P w =
            .ok (.defer { target := .fn (.func f) #[], args := args.map (ev E) }) w := by
          simp [execOp, resolve, ev, Deferred.ofValue]
        rw [e]; exact h
      | tmp s =>
        simp only [opP] at h
        split at h
        · rename_i fn first captured hx
          unfold Do
          have e : (execOp (ev E) { dst := dst, op := .defer { callee := .value (.tmp s), args := args, argTypes := ts }, type := type, pos := pos, after := after, guard := guard } : Sem Next).run P w =
              .ok (.defer { target := .fn fn captured, args := first ++ args.map (ev E) }) w := by
            simp [execOp, resolve, hx, Deferred.ofValue]
          rw [e]; exact h
        · exact h.elim
      | const c =>
        simp only [opP, ev] at h
        split at h
        · exact h
        · exact h.elim
      | global g => exact h.elim
    | builtin b => exact h.elim
    | invoke r name => exact h.elim
theorem opP_mono {P : Program} {ρ : Operand → Value} {o : Oper} {w : World} {K K' : Value → World → Prop} {X X' : List PanicEntry → World → Prop} {D D' : Deferred → World → Prop}
    (h : opP P ρ o w K X D) (hk : ∀ v w, K v w → K' v w) (hx : ∀ c w, X c w → X' c w) (hd : isDefer o.op = true → ∀ c w, D c w → D' c w) : opP P ρ o w K' X' D' := by
  obtain ⟨dst, op, type, pos, after, guard⟩ := o
  cases op <;> first | exact h.elim | exact h.mono hk hx (fun _ _ h => h) | exact hk _ _ h | skip
  case pick c a b =>
    simp only [opP] at h ⊢
    split at h <;> first | exact hk _ _ h | exact h.elim
  case call c =>
    obtain ⟨callee, args, ts⟩ := c
    cases callee with
    | value x =>
      cases x with
      | func f =>
        simp only [opP] at h ⊢
        split at h
        · refine Calls.mono h fun e w' he => ?_
          cases e <;> first | exact hk _ _ he | exact hx _ _ he | exact he.elim
        · exact h.elim
      | _ => exact Do.mono h hk hx (fun _ _ h => h)
    | builtin b => exact Do.mono h hk hx (fun _ _ h => h)
    | invoke r name => exact Do.mono h hk hx (fun _ _ h => h)
  case defer c =>
    obtain ⟨callee, args, ts⟩ := c
    have hd' := hd rfl
    cases callee with
    | value x =>
      cases x with
      | func f => exact hd' _ _ h
      | _ =>
        simp only [opP] at h ⊢
        split at h
        · exact hd' _ _ h
        · exact h.elim
    | builtin b => exact h.elim
    | invoke r name => exact h.elim

def tall : Prop := ∀ P ρ o w K X D, opP P ρ o w K X D
def tif (b : Bool) (A B : Prop) : Prop := (fun _ : Prop => match b with
  | true => A
  | false => B) tall
theorem tif_eq (b : Bool) (A B : Prop) : tif b A B = if b = true then A else B := by cases b <;> simp [tif]
theorem tif_beq (i j : Nat) (A B : Prop) : tif (Nat.beq i j) A B = if i = j then A else B := by
  rw [tif_eq]
  by_cases h : i = j
  · subst h; simp
  · rw [if_neg h, if_neg (fun hb => h (Nat.eq_of_beq_eq_true hb))]
def Gd (v : Value) (want : Bool) (A B : Prop) : Prop :=
  (fun _ : Prop => match v with
  | .bool true => (match want with | true => A | false => B)
  | .bool false => (match want with | true => B | false => A)
  | _ => False) tall
theorem Gd_bool (b want : Bool) (A B : Prop) : Gd (.bool b) want A B = if b = want then A else B := by cases b <;> cases want <;> simp [Gd]
theorem Gd_cases {v : Value} {want : Bool} {A B : Prop} (h : Gd v want A B) : ∃ b, v = .bool b ∧ if b = want then A else B := by
  cases v with
  | bool b => rw [Gd_bool] at h; exact ⟨b, rfl, h⟩
  | _ => exact h.elim
theorem Gd_of {v : Value} {want : Bool} {A B : Prop} (h : ∃ b, v = .bool b ∧ if b = want then A else B) : Gd v want A B := by
  obtain ⟨b, rfl, h⟩ := h
  rw [Gd_bool]; exact h

def Br (v : Value) (A B : Prop) : Prop :=
  (fun _ : Prop => match v with
  | .bool true => A
  | .bool false => B
  | _ => False) tall
theorem Br_bool (b : Bool) (A B : Prop) : Br (.bool b) A B = if b = true then A else B := by cases b <;> simp [Br]
theorem Br_cases {v : Value} {A B : Prop} (h : Br v A B) : ∃ b, v = .bool b ∧ if b = true then A else B := by
  cases v with
  | bool b => rw [Br_bool] at h; exact ⟨b, rfl, h⟩
  | _ => exact h.elim
theorem Br_of {v : Value} {A B : Prop} (h : ∃ b, v = .bool b ∧ if b = true then A else B) : Br v A B := by
  obtain ⟨b, rfl, h⟩ := h
  rw [Br_bool]; exact h

def slotOf (ops : Array Oper) (j : Nat) : Nat := (((ops[j]?).bind (·.dst))).getD 0
def hasSlot (ops : Array Oper) (j : Nat) : Bool := ((ops[j]?).bind (·.dst)).isSome

abbrev Post := Exit → Env → List Deferred → World → Prop

def ihPut (dst : Option Tmp) (ih : Env → List Deferred → World → Prop) (E : Env) (v : Option Value) (ds : List Deferred) (w : World) : Prop :=
  (fun _ : Prop => match dst with
  | some d => ih ((d, v) :: E) ds w
  | none => ih E ds w) tall
theorem ihPut_eq (dst : Option Tmp) (ih : Env → List Deferred → World → Prop) (E : Env) (v : Option Value) (ds : List Deferred) (w : World) : ihPut dst ih E v ds w = ih (putO E dst v) ds w := by
  cases dst <;> rfl
noncomputable def evO (E : Env) : Operand → Option Value
  | .tmp t => getO E t
  | x => some (ev E x)
theorem evO_some {E : Env} {x : Operand} {v : Value} (h : evO E x = some v) : ev E x = v := by
  cases x <;> first | (simp only [evO, Option.some.injEq] at h; exact h) | (simp only [evO] at h; simp [ev, get, h])
theorem evO_none {E : Env} {x : Operand} (h : evO E x = none) : ev E x = undef := by
  cases x <;> first | (simp only [evO] at h; exact absurd h (by simp)) | (simp only [evO] at h; simp [ev, get, h])
def movE (E : Env) (dst : Option Tmp) (x : Operand) (ih : Env → List Deferred → World → Prop) (ds : List Deferred) (w : World) : Prop :=
  (fun _ : Prop => match evO E x with
  | some v => ihPut dst ih E (some v) ds w
  | none => ihPut dst ih E (some undef) ds w) tall
theorem movE_eq (E : Env) (dst : Option Tmp) (x : Operand) (ih : Env → List Deferred → World → Prop) (ds : List Deferred) (w : World) : movE E dst x ih ds w = ih (put E dst (ev E x)) ds w := by
  unfold movE
  cases h : evO E x with
  | some v => simp only [ihPut_eq, evO_some h]; rfl
  | none => simp only [ihPut_eq, evO_none h]; rfl
def stepE (P : Program) (E : Env) (o : Oper) (ih : Env → List Deferred → World → Prop) (ds : List Deferred) (w : World) (X : List PanicEntry → World → Prop) (D : Deferred → World → Prop) : Prop :=
  (fun _ : Prop => match o.op with
  | .move x | .assign x => movE E o.dst x ih ds w
  | .pick c a b =>
    (match ev E c with
    | .bool true => movE E o.dst a ih ds w
    | .bool false => movE E o.dst b ih ds w
    | _ => False)
  | _ => opP P (ev E) o w (fun v w' => ihPut o.dst ih E (some v) ds w') X D) tall
theorem stepE_opP {P : Program} {E : Env} {o : Oper} {ih : Env → List Deferred → World → Prop} {ds : List Deferred} {w : World} {X : List PanicEntry → World → Prop} {D : Deferred → World → Prop} :
    stepE P E o ih ds w X D = opP P (ev E) o w (fun v w' => ih (put E o.dst v) ds w') X D := by
  have hp : (fun v w' => ihPut o.dst ih E (some v) ds w') = (fun v w' => ih (put E o.dst v) ds w') := by funext v w'; exact ihPut_eq _ _ _ _ _ _
  unfold stepE
  rw [hp]
  obtain ⟨dst, op, type, pos, after, guard⟩ := o
  cases op <;> simp only [opP, movE_eq]
def vcOp (P : Program) (ops : Array Oper) (Q : Post) (o : Oper) (ih : Env → List Deferred → World → Prop) (E : Env) (ds : List Deferred) (w : World) : Prop :=
  match o.guard with
  | none => stepE P E o ih ds w (fun ch w' => Q (.panic ch) E ds w') (fun d w' => ihPut o.dst ih E (some undef) (d :: ds) w')
  | some (j, want) =>
    match getO E (slotOf ops j) with
    | some v =>
      Gd v want
        (stepE P ((slotOf ops j, some (.bool want)) :: E) o ih ds w (fun ch w' => Q (.panic ch) E ds w') noD)
        (ihPut o.dst ih ((slotOf ops j, some (.bool !want)) :: E) none ds w)
    | none => ihPut o.dst ih E none ds w
theorem vcOp_eq (P : Program) (ops : Array Oper) (Q : Post) (o : Oper) (ih : Env → List Deferred → World → Prop) (E : Env) (ds : List Deferred) (w : World) : vcOp P ops Q o ih E ds w =
  match o.guard with
  | none => opP P (ev E) o w (fun v w' => ih (put E o.dst v) ds w') (fun ch w' => Q (.panic ch) E ds w') (fun d w' => ih (put E o.dst undef) (d :: ds) w')
  | some (j, want) =>
    match getO E (slotOf ops j) with
    | some v =>
      Gd v want
        (opP P (ev (put E (some (slotOf ops j)) (.bool want))) o w (fun v w' => ih (put (put E (some (slotOf ops j)) (.bool want)) o.dst v) ds w') (fun ch w' => Q (.panic ch) E ds w') noD)
        (ih (putO (put E (some (slotOf ops j)) (.bool !want)) o.dst none) ds w)
    | none => ih (putO E o.dst none) ds w := by
  unfold vcOp
  simp only [stepE_opP, ihPut_eq]
  rfl
def vcOps (P : Program) (ops : Array Oper) (Q : Post) (l : List Oper) : Env → List Deferred → World → Prop :=
  List.rec (fun E ds w => Q .normal E ds w) (fun o _ ih => vcOp P ops Q o ih) l
theorem vcOps_cons (P : Program) (ops : Array Oper) (Q : Post) (o : Oper) (rest : List Oper) (E : Env) (ds : List Deferred) (w : World) :
    vcOps P ops Q (o :: rest) E ds w = vcOp P ops Q o (vcOps P ops Q rest) E ds w := rfl

def opsOk (n : Nat) (ops : Array Oper) (l : List Oper) : Bool :=
  l.all fun o => (match o.dst with | some d => decide (d < n) | none => true) && (match o.guard with | some (j, _) => hasSlot ops j && decide (slotOf ops j < n) | none => true)

def exits : Code → Nat
  | .skip | .label _ => 1
  | .region _ ops _ => if ops.any (·.guard.isSome) then 2 else 1
  | .seq a b => min 3 (exits a * exits b)
  | .cond _ a b => min 3 (exits a + exits b)
  | .block id c => min 3 (exits c + go id c)
  | _ => 0
where
  go (id : Nat) : Code → Nat
    | .seq a b | .cond _ a b => go id a + go id b
    | .block _ c | .loop c | .scope c => go id c
    | .exit i => if i = id then 1 else 0
    | _ => 0
def big : Code → Bool
  | .region .. | .loop _ | .rangeFunc .. | .scope _ | .refuse _ => true
  | .seq a b | .cond _ a b => big a || big b
  | .block _ c => big c
  | _ => false
def dsts : Code → List Nat
  | .region _ ops _ => ops.toList.flatMap fun o => o.dst.toList ++ (match o.guard with | some (j, _) => [slotOf ops j] | none => [])
  | .seq a b | .cond _ a b => dsts a ++ dsts b
  | .block _ c | .loop c | .scope c => dsts c
  | .rangeFunc _ ps a b => ps.toList ++ dsts a ++ dsts b
  | _ => []
def noDefer : Code → Bool
  | .region _ ops _ => ops.toList.all fun o => !isDefer o.op
  | .seq a b | .cond _ a b => noDefer a && noDefer b
  | .block _ c | .loop c | .scope c => noDefer c
  | .rangeFunc .. => false
  | _ => true
def headCond : Code → List Nat
  | .cond (.tmp t) _ _ => [t]
  | .seq a _ => headCond a
  | .block _ c => headCond c
  | _ => []

def havoc (D : List Nat) (h : Nat → Value) (E : Env) : Env := D.map (fun t => (t, some (h t))) ++ E
theorem get_havoc (D : List Nat) (h : Nat → Value) (E : Env) (t : Nat) : get (havoc D h E) t = if t ∈ D then h t else get E t := by
  unfold havoc
  induction D with
  | nil => simp
  | cons d D ih =>
    simp only [List.map_cons, List.cons_append, get_cons, List.mem_cons, Option.getD_some]
    by_cases hd : t = d
    · subst hd; simp
    · rw [if_neg hd, ih]; simp [hd]

def JoinE (L : List Nat) (A : (List Value → World → Prop) → Prop) (B : (Nat → Value) → World → Prop) : Prop :=
  ∀ K : List Value → World → Prop, (∀ hs w', (∀ h, L.map h = hs → B h w') → K hs w') → A K
def LoopE (L : List Nat) (init : List Value) (w : World) (body : (Nat → Value) → World → (List Value → World → Prop) → Prop) : Prop :=
  ∃ (I : List Value → World → Prop) (μ : List Value → World → Nat), I init w ∧ ∀ h w', I (L.map h) w' → body h w' fun hs w'' => I hs w'' ∧ μ hs w'' < μ (L.map h) w'

def lives (vars : List Nat) (a b : Code) : List Nat := ((vars ++ headCond b).filter fun t => (dsts a).contains t).eraseDups
def dead (L : List Nat) (a : Code) : List Nat := L ++ ((dsts a).filter fun t => !L.contains t).eraseDups

def thenE (next : Env → List Deferred → World → Prop) (Q : Post) : Post := fun e E ds w => (fun _ : Prop => match e with
  | .normal => next E ds w
  | e => Q e E ds w) tall
def inBlockE (id : Nat) (Q : Post) : Post := fun e E ds w => (fun _ : Prop => match e with
  | .exit i => tif (Nat.beq i id) (Q .normal E ds w) (Q (.exit i) E ds w)
  | e => Q e E ds w) tall

/- St: what all others do; Dn: what this one does. -/
def DetOp (St Dn : World → World → Prop) (w0 : World) (op : World → (Value → World → Prop) → Prop) (rest : Value → (World → Prop) → Prop) : Prop :=
  ∃ (c : Value) (ψ : World → Prop), (∀ a b, ψ a → St a b → ψ b) ∧ (∀ w1, St w0 w1 → op w1 fun v w2 => v = c ∧ Dn w1 w2 ∧ ψ w2) ∧ rest c ψ
def dPut (dst : Option Tmp) (ih : Env → (World → Prop) → Prop) (E : Env) (v : Option Value) (F : World → Prop) : Prop :=
  (fun _ : Prop => match dst with
  | some d => ih ((d, v) :: E) F
  | none => ih E F) tall
theorem dPut_eq (dst : Option Tmp) (ih : Env → (World → Prop) → Prop) (E : Env) (v : Option Value) (F : World → Prop) : dPut dst ih E v F = ih (putO E dst v) F := by
  cases dst <;> rfl
def dMov (E : Env) (dst : Option Tmp) (x : Operand) (ih : Env → (World → Prop) → Prop) (F : World → Prop) : Prop :=
  (fun _ : Prop => match evO E x with
  | some v => dPut dst ih E (some v) F
  | none => dPut dst ih E (some undef) F) tall
theorem dMov_eq (E : Env) (dst : Option Tmp) (x : Operand) (ih : Env → (World → Prop) → Prop) (F : World → Prop) : dMov E dst x ih F = ih (put E dst (ev E x)) F := by
  unfold dMov
  cases h : evO E x with
  | some v => simp only [dPut_eq, evO_some h]; rfl
  | none => simp only [dPut_eq, evO_none h]; rfl
def detStep (P : Program) (St Dn : World → World → Prop) (w0 : World) (X : List PanicEntry → World → Prop) (o : Oper) (ih : Env → (World → Prop) → Prop) (E : Env) (F : World → Prop) : Prop :=
  (fun _ : Prop => match o.op with
  | .move x | .assign x => dMov E o.dst x ih F
  | .pick c a b =>
    (match ev E c with
    | .bool true => dMov E o.dst a ih F
    | .bool false => dMov E o.dst b ih F
    | _ => False)
  | _ => DetOp St Dn w0 (fun w1 K => opP P (ev E) o w1 K X noD) fun c ψ => dPut o.dst ih E (some c) fun w => F w ∧ ψ w) tall
def detOp (P : Program) (ops : Array Oper) (St Dn : World → World → Prop) (w0 : World) (X : List PanicEntry → World → Prop) (o : Oper) (ih : Env → (World → Prop) → Prop) (E : Env) (F : World → Prop) : Prop :=
  match o.guard with
  | none => detStep P St Dn w0 X o ih E F
  | some (j, want) =>
    match getO E (slotOf ops j) with
    | some v => Gd v want (detStep P St Dn w0 X o ih ((slotOf ops j, some (.bool want)) :: E) F) (dPut o.dst ih ((slotOf ops j, some (.bool !want)) :: E) none F)
    | none => dPut o.dst ih E none F
def detE (P : Program) (ops : Array Oper) (Rs Rb : World → World → Prop) (w0 : World) (X : List PanicEntry → World → Prop) (fin : Env → (World → Prop) → Prop) (l : List Oper) : Nat → Env → (World → Prop) → Prop :=
  List.rec (fun _ E F => fin E F) (fun o _ ih mv => detOp P ops (cond (Nat.beq mv 1) Rs Rb) (cond (Nat.beq mv 1) Rb Rs) w0 X o (ih (Nat.pred mv))) l
structure Pre (Rs Rb : World → World → Prop) : Prop where
  rs : ∀ a, Rs a a
  ts : ∀ a b c, Rs a b → Rs b c → Rs a c
  sub : ∀ a b, Rs a b → Rb a b
  tb : ∀ a b c, Rb a b → Rb b c → Rb a c
def DrawE (w : World) (body : (World → World → Prop) → (World → World → Prop) → World → Prop) : Prop :=
  ∃ Rs Rb : World → World → Prop, Pre Rs Rb ∧ body Rs Rb w.drew
def NdOp (St Dn : World → World → Prop) (w0 : World) (op : World → (Value → World → Prop) → Prop) (rest : Value → (World → Prop) → Prop) : Prop :=
  ∃ φ : Value → World → Prop, (∀ v a b, φ v a → St a b → φ v b) ∧ (∀ w1, St w0 w1 → op w1 fun v w2 => Dn w1 w2 ∧ φ v w2) ∧ ∀ v, rest v (φ v)
def drawFin (P : Program) (ops : Array Oper) (s : Nat) (nd : Bool) (mv : Nat) (Rs Rb : World → World → Prop) (w0 : World) (Q : Post) (E0 : Env) (ds : List Deferred) (E : Env) (F : World → Prop) : Prop :=
  tif nd
    (match ops[s]? with
    | some o => NdOp (cond (Nat.beq mv (s + 1)) Rs Rb) (cond (Nat.beq mv (s + 1)) Rb Rs) w0 (fun w1 K => opP P (ev E) o w1 K (fun ch w' => Q (.panic ch) E0 ds w') noD) fun v φ => ∀ w1, Rb w0 w1 → F w1 ∧ φ w1 → ihPut o.dst (vcOps P ops Q (ops.toList.drop (s + 1))) E (some v) ds w1
    | none => False)
    (∀ w1, Rb w0 w1 → F w1 → vcOps P ops Q (ops.toList.drop s) E ds w1)
def DrawR (w : World) (body : (World → World → Prop) → (Nat → World → World → Prop) → World → Prop) : Prop :=
  ∃ (R : World → World → Prop) (S : Nat → World → World → Prop), ((∀ a, R a a) ∧ (∀ a b c, R a b → R b c → R a c) ∧ (∀ u a, S u a a) ∧ (∀ u a b c, S u a b → S u b c → S u a c)) ∧ body R S w.drew
def Both (R : World → World → Prop) (S : Nat → World → World → Prop) (a b : World) : Prop := R a b ∧ ∀ u, S u a b
def NdC (R : World → World → Prop) (S : Nat → World → World → Prop) (t : Nat) (w0 : World) (Θ : World → Prop) (op : World → (Value → World → Prop) → Prop) (rest : Value → (World → Prop) → Prop) : Prop :=
  ∃ φ : Value → World → Prop, (∀ v a b, φ v a → S t a b → φ v b) ∧ (∀ w1, R w0 w1 → Θ w1 → op w1 fun v w2 => (R w1 w2 ∧ ∀ u, u ≠ t → S u w1 w2) ∧ φ v w2) ∧ ∀ v, rest v (φ v)
def ThrE (R : World → World → Prop) (S : Nat → World → World → Prop) (t : Nat) (w0 : World) (chain : (World → Prop) → (List Value → (World → Prop) → Prop) → Prop) (rest : (List Value → World → Prop) → Prop) : Prop :=
  ∃ (Θ : World → Prop) (Φ : List Value → World → Prop), Θ w0 ∧ (∀ a b, Θ a → S t a b → Θ b) ∧ chain Θ (fun vs Θ => ∀ w1, R w0 w1 → Θ w1 → Φ vs w1) ∧ rest Φ
def thOf (mv k : Nat) : Nat := Nat.mod (Nat.div (Nat.sub mv 1000) (Nat.pow 8 k)) 8
def thSeq (mv s : Nat) : List (List Nat) := ([1, 2, 3, 4].map fun t => (List.range s).filter fun k => Nat.beq (thOf mv k) t).filter fun l => !l.isEmpty
def thMask (nd : List Nat) (l : List Oper) : List Oper := l.zipIdx.map fun x => cond (nd.any (Nat.beq x.2)) { x.1 with op := .move (.const undef), guard := none } x.1
def hasDst (ops : Array Oper) (k : Nat) : Bool := ((ops[k]?).bind (·.dst)).isSome
def thrChain (P : Program) (ops : Array Oper) (R : World → World → Prop) (S : Nat → World → World → Prop) (t : Nat) (w0 : World) (X : List PanicEntry → World → Prop) (fin : List Value → (World → Prop) → Prop) (T : List Nat) : Env → (World → Prop) → List Value → Prop :=
  List.rec (fun _ Θ vs => fin vs Θ) (fun k _ ih E Θ vs =>
    match ops[k]? with
    | some o => NdC R S t w0 Θ (fun w1 K => opP P (ev E) o w1 K X noD) fun v φ => tif (hasDst ops k) (ih ((slotOf ops k, some v) :: E) φ (vs ++ [v])) (ih E φ vs)
    | none => False) T
def thrAll (P : Program) (ops : Array Oper) (R : World → World → Prop) (S : Nat → World → World → Prop) (w0 : World) (X : List PanicEntry → World → Prop) (Q : Post) (ds : List Deferred) (s : Nat) (nds : List Nat) (E : Env) (F : World → Prop) (TS : List (List Nat)) : Nat → ((Nat → Value) → World → Prop) → Prop :=
  List.rec (fun _ fac => ∀ h w1, R w0 w1 → F w1 ∧ fac h w1 → vcOps P ops Q (ops.toList.drop s) (havoc nds h E) ds w1)
    (fun T _ ih t fac => ThrE R S t w0 (fun Θ T1 => thrChain P ops R S t w0 X T1 T E Θ []) fun Φ => ih (Nat.succ t) fun h w1 => fac h w1 ∧ Φ ((T.filter (hasDst ops)).map fun k => h (slotOf ops k)) w1) TS
def vcThr (P : Program) (ops : Array Oper) (s : Nat) (TS : List (List Nat)) (Q : Post) (E : Env) (ds : List Deferred) (w : World) : Prop :=
  DrawR w fun R S w0 => detE P ops (Both R S) R w0 (fun ch w' => Q (.panic ch) E ds w') (fun E' F => thrAll P ops R S w0 (fun ch w' => Q (.panic ch) E ds w') Q ds s ((TS.flatten.filter (hasDst ops)).map (slotOf ops)) E' F TS 0 fun _ _ => True) (thMask TS.flatten (ops.toList.take s)) 0 E fun _ => True
def vcDraw (P : Program) (ops : Array Oper) (sn : Nat × Bool × Nat) (Q : Post) (E : Env) (ds : List Deferred) (w : World) : Prop :=
  tif (Nat.ble 1000 sn.2.2) (vcThr P ops sn.1 (thSeq sn.2.2 sn.1) Q E ds w)
  (DrawE w fun Rs Rb w0 => detE P ops Rs Rb w0 (fun ch w' => Q (.panic ch) E ds w') (drawFin P ops sn.1 sn.2.1 sn.2.2 Rs Rb w0 Q E ds) (ops.toList.take sn.1) sn.2.2 E fun _ => True)
noncomputable def tailAt (dr : List (Nat × Nat × Bool × Nat)) (id n : Nat) : Nat × Bool × Nat := List.rec (n, false, 0) (fun p _ ih => cond (Nat.beq p.1 id) p.2 ih) dr

abbrev VC := Post → Env → List Deferred → World → Prop
def KeepL (D : Nat) (a b : World) : Prop := b.heap[D]? = a.heap[D]? ∧ b.heap[D + 1]? = a.heap[D + 1]?
def nth (xs : List Value) (i : Nat) : Value := (xs[i]?).getD undef
noncomputable def parE (ps : Array Tmp) (xs : List Value) (E : Env) : Env := List.rec (motive := fun _ => Nat → Env → Env) (fun _ E => E) (fun p _ ih i E => ih (Nat.succ i) ((p, some (nth xs i)) :: E)) ps.toList 0 E
def jumpOf : Exit → Option Code
  | .ret => some .ret
  | .exit i => some (.exit i)
  | _ => none
def roundE (ids : List Nat) (D : Nat) (w : World) (J : Exit → World → Prop) : Post := fun e _ _ w' => (fun _ : Prop => match e with
  | .normal => KeepL D w w' ∧ ∀ o, J .normal (w'.putObj (D + 1) o)
  | .ret => KeepL D w w' ∧ ∀ o, J .ret (w'.putObj (D + 1) o)
  | .exit i => tif (ids.any (Nat.beq i)) (KeepL D w w' ∧ ∀ o, J (.exit i) (w'.putObj (D + 1) o)) False
  | _ => False) tall
def roundJ (R : World → Prop) (T : Exit → World → Prop) (K : Value → World → Prop) : Exit → World → Prop := fun e w' => match e with
  | .normal => R w' → K (.bool true) w'
  | e => T e w' → K (.bool false) w'
def RangeE (P : Program) (gv : Value) (np : Nat) (w : World) (rd : Nat → List Value → World → (Exit → World → Prop) → Prop) (fN fR : Nat → World → Prop) (fX : List (Nat × (Nat → World → Prop))) : Prop :=
  ∃ gf lb, gv = .func (.func gf) #[] lb ∧ goes P gf = true ∧ ∀ (r : Loop) (R : World → Prop) (T : Exit → World → Prop),
    R ((w.alloc (.deferred (some []))).alloc (.loop r)) → (∀ a b, R a → KeepL w.heap.size a b → R b) → (∀ e a b, T e a → KeepL w.heap.size a b → T e b) →
    (∀ xs W K X, xs.length = np → R W → rd w.heap.size xs W (roundJ R T K) → CallV P (.func (.yield (w.heap.size + 1)) #[] #[]) xs.toArray W K X) →
    CallF P gf (#[.func (.yield (w.heap.size + 1)) #[] #[]] ++ lb) ((w.alloc (.deferred (some []))).alloc (.loop r))
      (fun _ W => (R W ∧ ∀ o, (W.putObj (w.heap.size + 1) o).heap[w.heap.size]? = some (.deferred (some [])) → fN w.heap.size (W.putObj (w.heap.size + 1) o)) ∨
        (T .ret W ∧ ∀ o, (W.putObj (w.heap.size + 1) o).heap[w.heap.size]? = some (.deferred (some [])) → fR w.heap.size (W.putObj (w.heap.size + 1) o)) ∨
        ∃ p ∈ fX, T (.exit p.1) W ∧ ∀ o, (W.putObj (w.heap.size + 1) o).heap[w.heap.size]? = some (.deferred (some [])) → p.2 w.heap.size (W.putObj (w.heap.size + 1) o)) (fun _ _ => False)
theorem RangeE.mono {P : Program} {gv : Value} {np : Nat} {w : World} {rd : Nat → List Value → World → (Exit → World → Prop) → Prop} {fN fR fN' fR' : Nat → World → Prop} {ids : List Nat} {q q' : Nat → Nat → World → Prop} (h : RangeE P gv np w rd fN fR (ids.map fun i => (i, q i))) (hN : ∀ D w, fN D w → fN' D w) (hR : ∀ D w, fR D w → fR' D w) (hX : ∀ i D w, q i D w → q' i D w) : RangeE P gv np w rd fN' fR' (ids.map fun i => (i, q' i)) := by
  obtain ⟨gf, lb, h1, h2, h3⟩ := h
  refine ⟨gf, lb, h1, h2, fun r R T a b c d => Calls.mono (h3 r R T a b c d) fun e W he => ?_⟩
  cases e with
  | returned v =>
    refine he.imp (fun h => ⟨h.1, fun o ho => hN _ _ (h.2 o ho)⟩) (Or.imp (fun h => ⟨h.1, fun o ho => hR _ _ (h.2 o ho)⟩) ?_)
    rintro ⟨p, hp, h⟩
    obtain ⟨i, hi, rfl⟩ := List.mem_map.1 hp
    exact ⟨_, List.mem_map.2 ⟨i, hi, rfl⟩, h.1, fun o ho => hX _ _ _ (h.2 o ho)⟩
  | _ => exact he
def outsOf : Code → List Nat
  | .exit i => [i]
  | .seq a b | .cond _ a b => outsOf a ++ outsOf b
  | .block id c => (outsOf c).filter fun i => !Nat.beq id i
  | .loop c => outsOf c
  | _ => []
def vcRange (P : Program) (g : Operand) (ps : Array Tmp) (ids : List Nat) (iha ihb : VC) : VC := fun Q E ds w =>
  RangeE P (ev E g) ps.size w (fun D xs W J => iha (thenE (fun E1 ds1 W1 => KeepL D W W1 ∧ ∀ o, ihb (roundE ids D (W1.putObj (D + 1) o) J) E1 ds1 (W1.putObj (D + 1) o)) (fun _ _ _ _ => False)) (parE ps xs E) [] W)
    (fun D W => Q .normal E ({ target := .collected D, args := #[] } :: ds) W) (fun D W => Q .ret E ({ target := .collected D, args := #[] } :: ds) W) (ids.map fun i => (i, fun D W => Q (.exit i) E ({ target := .collected D, args := #[] } :: ds) W))
def vcSeq (vars : List Nat) (a b : Code) (iha ihb : VC) : VC := fun Q E ds w =>
  tif (exits a ≥ 2 && big b && noDefer a)
    (JoinE (lives vars a b) (fun K => iha (thenE (fun E' _ w' => K ((lives vars a b).map (get E')) w') Q) E ds w)
      (fun h w' => ihb Q (havoc (dead (lives vars a b) a) h E) ds w'))
    (iha (thenE (fun E' ds' w' => ihb Q E' ds' w') Q) E ds w)
def vcLoop (vars : List Nat) (c : Code) (ih : VC) : VC := fun Q E ds w =>
  LoopE (vars.filter fun t => (dsts c).contains t) ((vars.filter fun t => (dsts c).contains t).map (get E)) w
    fun h w' K => ih (thenE (fun E' _ w'' => K ((vars.filter fun t => (dsts c).contains t).map (get E')) w'') Q) (havoc (dead (vars.filter fun t => (dsts c).contains t) c) h E) ds w'
noncomputable def vc (P : Program) (dr : List (Nat × Nat × Bool × Nat)) (vars : List Nat) (c : Code) : VC :=
  Code.rec (motive := fun _ => VC)
    (fun Q E ds w => Q .normal E ds w)
    (fun id ops draw Q E ds w => tif draw (vcDraw P ops (tailAt dr id ops.size) Q E ds w) (vcOps P ops Q ops.toList E ds w))
    (fun a b iha ihb => vcSeq vars a b iha ihb)
    (fun c _ _ iha ihb Q E ds w => Br (ev E c) (iha Q E ds w) (ihb Q E ds w))
    (fun id _ ih Q E ds w => ih (inBlockE id Q) E ds w)
    (fun c ih => vcLoop vars c ih)
    (fun g ps _ y iha ihb Q E ds w => vcRange P g ps (outsOf y) iha ihb Q E ds w)
    (fun i Q E ds w => Q (.exit i) E ds w)
    (fun _ _ _ _ _ _ => False)
    (fun _ Q E ds w => Q .normal E ds w)
    (fun _ _ _ _ _ => False)
    (fun Q E ds w => Q .ret E ds w)
    (fun _ _ _ _ _ => False)
    c
theorem vc_seq (P : Program) (dr : List (Nat × Nat × Bool × Nat)) (vars : List Nat) (a b : Code) (Q : Post) (E : Env) (ds : List Deferred) (w : World) :
    vc P dr vars (.seq a b) Q E ds w = vcSeq vars a b (vc P dr vars a) (vc P dr vars b) Q E ds w := rfl

def pre (ops : Array Oper) (i : Nat) : List Nat := ((ops[i]?).map fun o => (o.after.toList.filter fun e => Region.binds .any e).map (·.on)).getD []
def clo (ops : Array Oper) : Nat → Nat → List Nat
  | 0, _ => []
  | f + 1, i => pre ops i ++ (pre ops i).flatMap (clo ops f)
def clash (ops : Array Oper) (x y : Oper) : Bool :=
  (match x.dst with | some d => (y.looksAt ops).contains d || y.dst == some d | none => false) || (match y.dst with | some d => (x.looksAt ops).contains d | none => false)
def drawOk (n : Nat) (rs : List Nat) (ops : Array Oper) (s : Nat) (L : List Nat := []) : Bool :=
  decide (s ≤ ops.size) && opsOk n ops ops.toList &&
  (ops.toList.all fun o => !isDefer o.op && (match o.op with | .select .. => false | _ => true) && (match o.dst with | some d => !rs.contains d | none => true)) &&
  ((List.range ops.size).all fun i => (pre ops i).all fun j => decide (j < i)) &&
  ((List.range ops.size).all fun k => (List.range k).all fun j => ((!decide (s ≤ k) || L.any (Nat.beq j)) && !(match ops[j]?, ops[k]? with | some x, some y => clash ops x y | _, _ => true)) || (clo ops 12 k).contains j)
def dstOf (ops : Array Oper) (k : Nat) : Option Tmp := (ops[k]?).bind (·.dst)
def pureOf : Op → Option Tmp
  | .extract (.tmp x) _ => some x
  | .move (.tmp x) => some x
  | .assign (.tmp x) => some x
  | _ => none
def pureV : Op → Value → Option Value
  | .extract _ ix, .tuple vs => vs[ix]?
  | .move _, u => some u
  | .assign _, u => some u
  | _, _ => none
def isExt (ops : Array Oper) (k : Nat) : Bool := match ops[k]? with
  | some o => (pureOf o.op).isSome && o.dst.isSome
  | none => false
theorem isExt_iff {ops : Array Oper} {k : Nat} (h : isExt ops k = true) : ∃ o x, ops[k]? = some o ∧ pureOf o.op = some x := by
  unfold isExt at h
  split at h
  · rename_i o ho
    obtain ⟨x, hx⟩ := Option.isSome_iff_exists.1 (Bool.and_eq_true_iff.1 h).1
    exact ⟨o, x, ho, hx⟩
  · cases h
theorem isExt_dst {ops : Array Oper} {k : Nat} (h : isExt ops k = true) : hasDst ops k = true := by
  unfold isExt at h
  split at h
  · rename_i o ho
    simpa [hasDst, ho] using (Bool.and_eq_true_iff.1 h).2
  · cases h
theorem dst_of {ops : Array Oper} {k : Nat} (h : hasDst ops k = true) : dstOf ops k = some (slotOf ops k) := by
  obtain ⟨d, hd⟩ := Option.isSome_iff_exists.1 h
  have hd : dstOf ops k = some d := hd
  have : slotOf ops k = d := by
    show (dstOf ops k).getD 0 = d
    rw [hd]; rfl
  rw [this, hd]
def thrOk (ops : Array Oper) (s : Nat) (TS : List (List Nat)) : Bool :=
  (TS.flatten.all fun k => decide (k < s) && (match ops[k]? with | some o => o.guard.isNone | none => false)) &&
  ((List.range s).all fun i => (List.range i).all fun j => match dstOf ops i, dstOf ops j with | some a, some b => !(a == b) | _, _ => true) &&
  ((List.range s).all fun k => (List.range s).all fun j => match dstOf ops j, ops[k]? with | some d, some o => !((o.looksAt ops).contains d) || (decide (j < k) && (!(TS.flatten.contains j) || (TS.any fun T => T.contains j && T.contains k))) | _, _ => true) &&
  (TS.all fun T => (T.all fun k => T.all fun j => !(decide (j < k)) || (clo ops 12 k).contains j || (isExt ops j && isExt ops k)) && decide (T.Pairwise (· < ·))) &&
  decide TS.flatten.Nodup
def lagOf (ops : Array Oper) (s : Nat) (TS : List (List Nat)) : List Nat :=
  cond ((ops.toList.drop s).all fun o => o.guard.isNone) (TS.flatten.filter (isExt ops)) []
def cut (sn : Nat × Bool × Nat) : Nat := cond sn.2.1 (sn.1 + 1) sn.1
noncomputable def codeOk (n : Nat) (rs : List Nat) (dr : List (Nat × Nat × Bool × Nat)) : Code → Bool
  | .region _ ops false => opsOk n ops ops.toList
  | .region id ops true => cond (Nat.ble 1000 (tailAt dr id ops.size).2.2) (drawOk n rs ops (tailAt dr id ops.size).1 (lagOf ops (tailAt dr id ops.size).1 (thSeq (tailAt dr id ops.size).2.2 (tailAt dr id ops.size).1)) && thrOk ops (tailAt dr id ops.size).1 (thSeq (tailAt dr id ops.size).2.2 (tailAt dr id ops.size).1)) <| drawOk n rs ops (cut (tailAt dr id ops.size)) && (cond (tailAt dr id ops.size).2.1 (decide ((tailAt dr id ops.size).1 < ops.size) && (match ops[(tailAt dr id ops.size).1]? with | some o => o.guard.isNone | none => false)) true)
  | .seq a b | .cond _ a b => codeOk n rs dr a && codeOk n rs dr b
  | .block _ c => codeOk n rs dr c
  | .loop c => codeOk n rs dr c && noDefer c
  | .rangeFunc _ ps x y => codeOk n rs dr x && codeOk n rs dr y && noDefer x && noDefer y && (ps.toList.all fun p => decide (p < n))
  | .skip | .label _ | .exit _ | .ret => true
  | _ => false

def Fr (D : List Nat) (E E' : Env) : Prop := ∀ t, t ∉ D → get E' t = get E t
theorem Fr.refl (D : List Nat) (E : Env) : Fr D E E := fun _ _ => rfl
theorem Fr.trans {D : List Nat} {E E' E'' : Env} (h : Fr D E E') (h' : Fr D E' E'') : Fr D E E'' := fun t ht => (h' t ht).trans (h t ht)
theorem Fr.mono {D D' : List Nat} {E E' : Env} (h : Fr D E E') (hd : ∀ t, t ∈ D → t ∈ D') : Fr D' E E' := fun t ht => h t fun hh => ht (hd t hh)
theorem Fr.putO {D : List Nat} {E : Env} {d : Option Tmp} (hd : ∀ t, d = some t → t ∈ D) (v : Option Value) : Fr D E (putO E d v) := by
  intro t ht
  cases d with
  | none => rfl
  | some s =>
    have := hd s rfl
    simp only [Sh.putO, get_cons]
    rw [if_neg (show ¬ t = s from fun e => ht (e ▸ this))]
theorem Fr.put {D : List Nat} {E : Env} {d : Option Tmp} (hd : ∀ t, d = some t → t ∈ D) (v : Value) : Fr D E (Sh.put E d v) := Fr.putO hd (some v)

def dstsOps (ops : Array Oper) (l : List Oper) : List Nat := l.flatMap fun o => o.dst.toList ++ (match o.guard with | some (j, _) => [slotOf ops j] | none => [])

theorem vcOps_frame {P : Program} {ops : Array Oper} : ∀ (l : List Oper) (E : Env) (ds : List Deferred) (w : World) (Q Q' : Post),
    (∀ e E' ds' w', Fr (dstsOps ops l) E E' → ((l.all fun o => !isDefer o.op) = true → ds' = ds) → Q e E' ds' w' → Q' e E' ds' w') → vcOps P ops Q l E ds w → vcOps P ops Q' l E ds w
  | [], E, ds, w, Q, Q', h, hv => h _ _ _ _ (Fr.refl _ _) (fun _ => rfl) hv
  | o :: rest, E, ds, w, Q, Q', h, hv => by
    have hsub : ∀ t, t ∈ dstsOps ops rest → t ∈ dstsOps ops (o :: rest) := fun t ht => by simp only [dstsOps, List.flatMap_cons, List.mem_append]; exact .inr ht
    have hdst : ∀ t, o.dst = some t → t ∈ dstsOps ops (o :: rest) := fun t ht => by simp [dstsOps, ht]
    have hall : ((o :: rest).all fun o => !isDefer o.op) = true → (!isDefer o.op) = true ∧ (rest.all fun o => !isDefer o.op) = true := fun hh => by simpa only [List.all_cons, Bool.and_eq_true] using hh
    simp only [vcOps_cons, vcOp_eq] at hv ⊢
    cases hg : o.guard with
    | none =>
      simp only [hg] at hv ⊢
      refine opP_mono hv (fun v w' hk => ?_) (fun c w' hx => h _ _ _ _ (Fr.refl _ _) (fun _ => rfl) hx) (fun hno d w' hk => ?_)
      · exact vcOps_frame rest _ _ _ _ _ (fun e E' ds' w' hf hn => h e E' ds' w' ((Fr.put hdst v).trans (hf.mono hsub)) (fun hh => hn (hall hh).2)) hk
      · exact vcOps_frame rest _ _ _ _ _ (fun e E' ds' w' hf hn => h e E' ds' w' ((Fr.put hdst undef).trans (hf.mono hsub)) (fun hh => by have := (hall hh).1; rw [hno] at this; exact absurd this (by decide))) hk
    | some jw =>
      obtain ⟨j, want⟩ := jw
      have hs : slotOf ops j ∈ dstsOps ops (o :: rest) := by simp [dstsOps, hg]
      simp only [hg] at hv ⊢
      have hs' : ∀ t, some (slotOf ops j) = some t → t ∈ dstsOps ops (o :: rest) := fun t ht => by cases ht; exact hs
      cases hgo : getO E (slotOf ops j) with
      | none =>
        simp only [hgo] at hv ⊢
        exact vcOps_frame rest _ _ _ _ _ (fun e E' ds' w' hf hn' => h e E' ds' w' ((Fr.putO hdst none).trans (hf.mono hsub)) (fun hh => hn' (hall hh).2)) hv
      | some v0 =>
        simp only [hgo] at hv ⊢
        obtain ⟨b, hb, hif⟩ := Gd_cases hv
        refine Gd_of ⟨b, hb, ?_⟩
        split at hif
        · rename_i hbw; rw [if_pos hbw]
          exact opP_mono hif (fun v w' hk => vcOps_frame rest _ _ _ _ _ (fun e E' ds' w' hf hn => h e E' ds' w' (((Fr.put hs' _).trans (Fr.put hdst v)).trans (hf.mono hsub)) (fun hh => hn (hall hh).2)) hk) (fun c w' hx => h _ _ _ _ (Fr.refl _ _) (fun _ => rfl) hx)
            (fun _ d w' hk => hk)
        · rename_i hbw; rw [if_neg hbw]
          exact vcOps_frame rest _ _ _ _ _ (fun e E' ds' w' hf hn => h e E' ds' w' (((Fr.put hs' _).trans (Fr.putO hdst none)).trans (hf.mono hsub)) (fun hh => hn (hall hh).2)) hif

theorem mem_dead {L : List Nat} {a : Code} {t : Nat} : t ∈ dead L a ↔ t ∈ L ∨ t ∈ dsts a := by
  simp only [dead, List.mem_append, List.mem_eraseDups, List.mem_filter]
  constructor
  · rintro (h | ⟨h, _⟩)
    · exact .inl h
    · exact .inr h
  · rintro (h | h)
    · exact .inl h
    · by_cases hl : t ∈ L
      · exact .inl hl
      · exact .inr ⟨h, by simpa using hl⟩
theorem mem_lives {vars : List Nat} {a b : Code} {t : Nat} (h : t ∈ lives vars a b) : t ∈ dsts a := by
  simp only [lives, List.mem_eraseDups, List.mem_filter] at h
  simpa using h.2

theorem detE_mono {P : Program} {ops : Array Oper} {Rs Rb : World → World → Prop} {w0 : World} {X X' : List PanicEntry → World → Prop} {fin fin' : Env → (World → Prop) → Prop} (hX : ∀ c w, X c w → X' c w) :
    ∀ (l : List Oper) (mv : Nat) (E : Env) (F : World → Prop), (∀ E' F', Fr (dstsOps ops l) E E' → fin E' F' → fin' E' F') → detE P ops Rs Rb w0 X fin l mv E F → detE P ops Rs Rb w0 X' fin' l mv E F
  | [], mv, E, F, h, hv => h _ _ (Fr.refl _ _) hv
  | o :: rest, mv, E, F, h, hv => by
    have hsub : ∀ t, t ∈ dstsOps ops rest → t ∈ dstsOps ops (o :: rest) := fun t ht => by simp only [dstsOps, List.flatMap_cons, List.mem_append]; exact .inr ht
    have hdst : ∀ t, o.dst = some t → t ∈ dstsOps ops (o :: rest) := fun t ht => by simp [dstsOps, ht]
    have hput : ∀ (E1 : Env) (v : Option Value) (F1 : World → Prop), Fr (dstsOps ops (o :: rest)) E E1 → dPut o.dst (detE P ops Rs Rb w0 X fin rest mv.pred) E1 v F1 → dPut o.dst (detE P ops Rs Rb w0 X' fin' rest mv.pred) E1 v F1 := fun E1 v F1 hf hd => by
      rw [dPut_eq] at hd ⊢
      exact detE_mono hX rest _ _ _ (fun E' F' hf' => h _ _ ((hf.trans (Fr.putO hdst v)).trans (hf'.mono hsub))) hd
    have hmov : ∀ (E1 : Env) (x : Operand), Fr (dstsOps ops (o :: rest)) E E1 → dMov E1 o.dst x (detE P ops Rs Rb w0 X fin rest mv.pred) F → dMov E1 o.dst x (detE P ops Rs Rb w0 X' fin' rest mv.pred) F := fun E1 x hf hd => by
      rw [dMov_eq] at hd ⊢
      exact detE_mono hX rest _ _ _ (fun E' F' hf' => h _ _ ((hf.trans (Fr.put hdst _)).trans (hf'.mono hsub))) hd
    have hstep : ∀ E1 : Env, Fr (dstsOps ops (o :: rest)) E E1 → detStep P (cond (Nat.beq mv 1) Rs Rb) (cond (Nat.beq mv 1) Rb Rs) w0 X o (detE P ops Rs Rb w0 X fin rest mv.pred) E1 F → detStep P (cond (Nat.beq mv 1) Rs Rb) (cond (Nat.beq mv 1) Rb Rs) w0 X' o (detE P ops Rs Rb w0 X' fin' rest mv.pred) E1 F := fun E1 hf hd => by
      have gen : DetOp (cond (Nat.beq mv 1) Rs Rb) (cond (Nat.beq mv 1) Rb Rs) w0 (fun w1 K => opP P (ev E1) o w1 K X noD) (fun c ψ => dPut o.dst (detE P ops Rs Rb w0 X fin rest mv.pred) E1 (some c) fun w => F w ∧ ψ w) →
          DetOp (cond (Nat.beq mv 1) Rs Rb) (cond (Nat.beq mv 1) Rb Rs) w0 (fun w1 K => opP P (ev E1) o w1 K X' noD) (fun c ψ => dPut o.dst (detE P ops Rs Rb w0 X' fin' rest mv.pred) E1 (some c) fun w => F w ∧ ψ w) := fun ⟨c, ψ, h1, h2, h3⟩ =>
        ⟨c, ψ, h1, fun w1 hr => opP_mono (h2 w1 hr) (fun _ _ h => h) hX (fun _ _ _ h => h), hput _ _ _ hf h3⟩
      unfold detStep at hd ⊢
      cases ho : o.op <;> simp only [ho] at hd ⊢ <;> first | exact hmov _ _ hf hd | exact gen hd | skip
      split at hd <;> first | exact hmov _ _ hf hd | exact hd.elim
    show detOp P ops (cond (Nat.beq mv 1) Rs Rb) (cond (Nat.beq mv 1) Rb Rs) w0 X' o (detE P ops Rs Rb w0 X' fin' rest mv.pred) E F
    have hv' : detOp P ops (cond (Nat.beq mv 1) Rs Rb) (cond (Nat.beq mv 1) Rb Rs) w0 X o (detE P ops Rs Rb w0 X fin rest mv.pred) E F := hv
    unfold detOp at hv' ⊢
    cases hg : o.guard with
    | none => simp only [hg] at hv' ⊢; exact hstep _ (Fr.refl _ _) hv'
    | some jw =>
      obtain ⟨j, want⟩ := jw
      have hs : ∀ t, some (slotOf ops j) = some t → t ∈ dstsOps ops (o :: rest) := fun t ht => by cases ht; simp [dstsOps, hg]
      simp only [hg] at hv' ⊢
      cases hgo : getO E (slotOf ops j) with
      | none => simp only [hgo] at hv' ⊢; exact hput _ _ _ (Fr.refl _ _) hv'
      | some v0 =>
        simp only [hgo] at hv' ⊢
        obtain ⟨b, hb, hif⟩ := Gd_cases hv'
        refine Gd_of ⟨b, hb, ?_⟩
        split at hif
        · rename_i hbw; rw [if_pos hbw]; exact hstep _ (Fr.putO (d := some (slotOf ops j)) hs _) hif
        · rename_i hbw; rw [if_neg hbw]; exact hput _ _ _ (Fr.putO (d := some (slotOf ops j)) hs _) hif

structure ThrOk (ops : Array Oper) (s : Nat) (TS : List (List Nat)) : Prop where
  lt : ∀ k, k ∈ TS.flatten → k < s
  dst : ∀ k, k ∈ TS.flatten → hasDst ops k = true → dstOf ops k = some (slotOf ops k)
  guard : ∀ k o, k ∈ TS.flatten → ops[k]? = some o → o.guard = none
  uniq : ∀ i j d, i < s → j < s → dstOf ops i = some d → dstOf ops j = some d → i = j
  looks : ∀ k j d o, k < s → j < s → dstOf ops j = some d → ops[k]? = some o → d ∈ o.looksAt ops → j < k ∧ (j ∉ TS.flatten ∨ ∃ T, T ∈ TS ∧ j ∈ T ∧ k ∈ T)
  chain : ∀ T, T ∈ TS → ∀ k j, k ∈ T → j ∈ T → j < k → j ∈ clo ops 12 k ∨ (isExt ops j = true ∧ isExt ops k = true)
  asc : ∀ T, T ∈ TS → T.Pairwise (· < ·)
  nodup : TS.flatten.Nodup
theorem thrOk_of {ops : Array Oper} {s : Nat} {TS : List (List Nat)} (h : thrOk ops s TS = true) : ThrOk ops s TS := by
  simp only [thrOk, Bool.and_eq_true, List.all_eq_true, decide_eq_true_eq] at h
  obtain ⟨⟨⟨⟨h1, h2⟩, h3⟩, h4⟩, h5⟩ := h
  have h2' : ∀ i j d, i < s → j < i → dstOf ops i = some d → dstOf ops j = some d → False := fun i j d hi hj h1 h3 => by
    have := h2 i (List.mem_range.2 hi) j (List.mem_range.2 hj)
    rw [h1, h3] at this
    simp at this
  refine ⟨fun k hk => (h1 k hk).1, fun k _ h => dst_of h, fun k o hk ho => ?_, fun i j d hi hj hdi hdj => ?_, fun k j d o hk hj hdj ho hl => ?_, fun T hT k j hk hj hjk => ?_, fun T hT => (h4 T hT).2, h5⟩
  · have := (h1 k hk).2
    rw [ho] at this
    simpa using this
  · rcases Nat.lt_trichotomy i j with h | h | h
    · exact (h2' j i d hj h hdj hdi).elim
    · exact h
    · exact (h2' i j d hi h hdi hdj).elim
  · have := h3 k (List.mem_range.2 hk) j (List.mem_range.2 hj)
    rw [hdj, ho] at this
    simp only [Bool.or_eq_true, Bool.and_eq_true, Bool.not_eq_true', decide_eq_true_eq, List.any_eq_true, List.contains_iff_mem] at this
    rcases this with h | ⟨h, h'⟩
    · have h' : (o.looksAt ops).contains d = true := List.contains_iff_mem.2 hl
      rw [h] at h'; cases h'
    · refine ⟨h, ?_⟩
      rcases h' with h' | ⟨T, hT, hj, hk⟩
      · left
        intro hm
        have : TS.flatten.contains j = true := List.contains_iff_mem.2 hm
        rw [h'] at this; cases this
      · exact .inr ⟨T, hT, hj, hk⟩
  · have := (h4 T hT).1 k hk j hj
    simp only [Bool.or_eq_true, Bool.and_eq_true, Bool.not_eq_true', decide_eq_false_iff_not, List.contains_iff_mem] at this
    rcases this with (h | h) | h
    · exact absurd hjk h
    · exact .inl h
    · exact .inr h
theorem thMask_get (nd : List Nat) (l : List Oper) (k : Nat) : (thMask nd l)[k]? = (l[k]?).map fun o => cond (nd.any (Nat.beq k)) { o with op := .move (.const undef), guard := none } o := by
  simp only [thMask, List.getElem?_map, List.getElem?_zipIdx, Nat.zero_add]
  cases l[k]? <;> rfl
theorem thMask_length (nd : List Nat) (l : List Oper) : (thMask nd l).length = l.length := by simp [thMask]
theorem any_beq {nd : List Nat} {k : Nat} : (nd.any (Nat.beq k)) = true ↔ k ∈ nd := by
  rw [List.any_eq_true]
  constructor
  · rintro ⟨x, hx, he⟩
    rw [Nat.eq_of_beq_eq_true he]; exact hx
  · intro h
    exact ⟨k, h, Nat.beq_refl k⟩
theorem thMask_dst (nd : List Nat) (l : List Oper) (k : Nat) : ((thMask nd l)[k]?).bind (·.dst) = (l[k]?).bind (·.dst) := by
  rw [thMask_get]
  cases l[k]? with
  | none => rfl
  | some o => simp only [Option.map_some, Option.bind_some]; cases nd.any (Nat.beq k) <;> rfl
theorem thMask_dsts {ops : Array Oper} {nd : List Nat} {l : List Oper} {t : Nat} (h : t ∈ dstsOps ops (thMask nd l)) : t ∈ dstsOps ops l := by
  simp only [dstsOps, List.mem_flatMap] at h ⊢
  obtain ⟨o, ho, ht⟩ := h
  obtain ⟨k, hk⟩ := List.getElem?_of_mem ho
  rw [thMask_get] at hk
  cases hl : l[k]? with
  | none => rw [hl] at hk; cases hk
  | some o' =>
    rw [hl, Option.map_some, Option.some.injEq] at hk
    refine ⟨o', List.mem_of_getElem? hl, ?_⟩
    subst hk
    cases hb : nd.any (Nat.beq k) with
    | false => rw [hb] at ht; exact ht
    | true =>
      rw [hb] at ht
      simp only [cond_true, List.append_nil] at ht
      exact List.mem_append.2 (.inl ht)
theorem thrChain_mono {P : Program} {ops : Array Oper} {R : World → World → Prop} {S : Nat → World → World → Prop} {t : Nat} {w0 : World} {X X' : List PanicEntry → World → Prop} (hX : ∀ c w, X c w → X' c w) {fin : List Value → (World → Prop) → Prop} :
    ∀ (T : List Nat) (E : Env) (Θ : World → Prop) (vs : List Value), thrChain P ops R S t w0 X fin T E Θ vs → thrChain P ops R S t w0 X' fin T E Θ vs
  | [], _, _, _, h => h
  | k :: T, E, Θ, vs, h => by
    simp only [thrChain] at h ⊢
    cases ho : ops[k]? with
    | none => simp only [ho] at h
    | some o =>
      simp only [ho] at h ⊢
      obtain ⟨φ, h1, h2, h3⟩ := h
      refine ⟨φ, h1, fun w1 hr hΘ => opP_mono (h2 w1 hr hΘ) (fun _ _ h => h) hX (fun _ _ _ h => h), fun v => ?_⟩
      have h3 := h3 v
      cases hd : hasDst ops k with
      | true => rw [hd] at h3; exact thrChain_mono hX T _ _ _ h3
      | false => rw [hd] at h3; exact thrChain_mono hX T _ _ _ h3
theorem thrAll_mono {P : Program} {ops : Array Oper} {R : World → World → Prop} {S : Nat → World → World → Prop} {w0 : World} {X X' : List PanicEntry → World → Prop} (hX : ∀ c w, X c w → X' c w) {Q Q' : Post} {ds : List Deferred} {s : Nat} {nds : List Nat} {E : Env} {F : World → Prop}
    (h : ∀ hh w1, vcOps P ops Q (ops.toList.drop s) (havoc nds hh E) ds w1 → vcOps P ops Q' (ops.toList.drop s) (havoc nds hh E) ds w1) :
    ∀ (TS : List (List Nat)) (t : Nat) (fac : (Nat → Value) → World → Prop), thrAll P ops R S w0 X Q ds s nds E F TS t fac → thrAll P ops R S w0 X' Q' ds s nds E F TS t fac
  | [], _, _, hv => fun hh w1 hr hf => h hh w1 (hv hh w1 hr hf)
  | _ :: TS, t, _, ⟨Θ, Φ, h1, h2, h3, h4⟩ => ⟨Θ, Φ, h1, h2, thrChain_mono hX _ _ _ _ h3, thrAll_mono hX h TS (Nat.succ t) _ h4⟩
theorem thr_frame {P : Program} {id : Nat} {ops : Array Oper} {s : Nat} {TS : List (List Nat)} {E : Env} {ds : List Deferred} {w : World} {Q Q' : Post} (hnd : (ops.toList.all fun o => !isDefer o.op) = true) (hT : ∀ k, k ∈ TS.flatten → hasDst ops k = true → dstOf ops k = some (slotOf ops k))
    (h : ∀ e E' ds' w', Fr (dsts (Code.region id ops true)) E E' → (noDefer (Code.region id ops true) = true → ds' = ds) → Q e E' ds' w' → Q' e E' ds' w') (hv : vcThr P ops s TS Q E ds w) : vcThr P ops s TS Q' E ds w := by
  obtain ⟨R, S, h1, h3⟩ := hv
  refine ⟨R, S, h1, ?_⟩
  have hsub : ∀ s t, t ∈ dstsOps ops (ops.toList.drop s) → t ∈ dsts (Code.region id ops true) := fun s t ht => by
    simp only [dstsOps, List.mem_flatMap] at ht
    obtain ⟨o, ho, hot⟩ := ht
    simp only [dsts, List.mem_flatMap]
    exact ⟨o, List.mem_of_mem_drop ho, hot⟩
  have hsub2 : ∀ s t, t ∈ dstsOps ops (thMask TS.flatten (ops.toList.take s)) → t ∈ dsts (Code.region id ops true) := fun s t ht => by
    have ht := thMask_dsts ht
    simp only [dstsOps, List.mem_flatMap] at ht
    obtain ⟨o, ho, hot⟩ := ht
    simp only [dsts, List.mem_flatMap]
    exact ⟨o, List.mem_of_mem_take ho, hot⟩
  have hdrop : ∀ s, ((ops.toList.drop s).all fun o => !isDefer o.op) = true := fun s => List.all_eq_true.2 fun o ho => List.all_eq_true.1 hnd o (List.mem_of_mem_drop ho)
  have hx : ∀ ch w', Q (.panic ch) E ds w' → Q' (.panic ch) E ds w' := fun ch w' hx => h _ _ _ _ (Fr.refl _ _) (fun _ => rfl) hx
  refine detE_mono hx _ _ _ _ (fun E' F hf hfin => ?_) h3
  have hf := hf.mono (hsub2 _)
  refine thrAll_mono hx (fun hh w1 hk => ?_) TS _ _ hfin
  have hh' : Fr (dsts (Code.region id ops true)) E' (havoc ((TS.flatten.filter (hasDst ops)).map (slotOf ops)) hh E') := fun t ht => by
    rw [get_havoc, if_neg]
    intro hm
    obtain ⟨k, hk, rfl⟩ := List.mem_map.1 hm
    have hd := hT k (List.mem_filter.1 hk).1 (List.mem_filter.1 hk).2
    refine ht ?_
    simp only [dsts, List.mem_flatMap]
    cases ho : ops[k]? with
    | none => simp [dstOf, ho] at hd
    | some o =>
      refine ⟨o, Array.mem_toList_iff.2 (Array.mem_of_getElem? ho), ?_⟩
      simp only [dstOf, ho, Option.bind_some] at hd
      simp [hd]
  exact vcOps_frame _ _ _ _ _ _ (fun e E'' ds' w'' hf' hn hq => h _ _ _ _ ((hf.trans hh').trans (hf'.mono (hsub _))) (fun _ => hn (hdrop _)) hq) hk
theorem vc_frame {P : Program} {n : Nat} {rs : List Nat} {dr : List (Nat × Nat × Bool × Nat)} {vars : List Nat} : ∀ (c : Code) (E : Env) (ds : List Deferred) (w : World) (Q Q' : Post), codeOk n rs dr c = true →
    (∀ e E' ds' w', Fr (dsts c) E E' → (noDefer c = true → ds' = ds) → Q e E' ds' w' → Q' e E' ds' w') → vc P dr vars c Q E ds w → vc P dr vars c Q' E ds w
  | .skip, E, ds, w, Q, Q', _, h, hv | .label _, E, ds, w, Q, Q', _, h, hv => h _ _ _ _ (Fr.refl _ _) (fun _ => rfl) hv
  | .exit i, E, ds, w, Q, Q', _, h, hv => h _ _ _ _ (Fr.refl _ _) (fun _ => rfl) hv
  | .ret, E, ds, w, Q, Q', _, h, hv => h _ _ _ _ (Fr.refl _ _) (fun _ => rfl) hv
  | .region _ ops false, E, ds, w, Q, Q', _, h, hv => vcOps_frame ops.toList E ds w Q Q' h hv
  | .seq a b, E, ds, w, Q, Q', ok, h, hv => by
    simp only [codeOk, Bool.and_eq_true] at ok
    simp only [vc_seq, vcSeq, tif_eq] at hv ⊢
    have ha : ∀ t, t ∈ dsts a → t ∈ dsts (Code.seq a b) := fun t ht => by simp only [dsts, List.mem_append]; exact .inl ht
    have hb : ∀ t, t ∈ dsts b → t ∈ dsts (Code.seq a b) := fun t ht => by simp only [dsts, List.mem_append]; exact .inr ht
    have hnd : noDefer (Code.seq a b) = true → noDefer a = true ∧ noDefer b = true := fun hh => by simpa only [noDefer, Bool.and_eq_true] using hh
    split at hv
    · rename_i hc
      rw [if_pos hc]
      intro K hK
      have h1 := hv K fun hs w' hB => hK hs w' fun h' hh => by
        refine vc_frame b _ _ _ _ _ ok.2 (fun e E' ds' w'' hf hn => h e E' ds' w'' ?_ (fun hh => hn (hnd hh).2)) (hB h' hh)
        intro t ht
        rw [hf t (fun hh => ht (hb t hh)), get_havoc, if_neg]
        intro hd
        rcases mem_dead.1 hd with hl | hd
        · exact ht (ha t (mem_lives hl))
        · exact ht (ha t hd)
      refine vc_frame a _ _ _ _ _ ok.1 (fun e E' ds' w'' hf hn hq => ?_) h1
      cases e with
      | normal => exact hq
      | _ => exact h _ _ _ _ (hf.mono ha) (fun hh => hn (hnd hh).1) hq
    · rename_i hc
      rw [if_neg hc]
      refine vc_frame a _ _ _ _ _ ok.1 (fun e E' ds' w'' hf hn hq => ?_) hv
      cases e with
      | normal => exact vc_frame b _ _ _ _ _ ok.2 (fun e E'' ds2 w'' hf' hn' => h e E'' ds2 w'' ((hf.mono ha).trans (hf'.mono hb)) (fun hh => (hn' (hnd hh).2).trans (hn (hnd hh).1))) hq
      | _ => exact h _ _ _ _ (hf.mono ha) (fun hh => hn (hnd hh).1) hq
  | .cond c a b, E, ds, w, Q, Q', ok, h, hv => by
    simp only [codeOk, Bool.and_eq_true] at ok
    obtain ⟨t, ht, hif⟩ := Br_cases hv
    refine Br_of ⟨t, ht, ?_⟩
    have hnd : noDefer (Code.cond c a b) = true → noDefer a = true ∧ noDefer b = true := fun hh => by simpa only [noDefer, Bool.and_eq_true] using hh
    cases t with
    | true => exact vc_frame a _ _ _ _ _ ok.1 (fun e E' ds' w' hf hn => h e E' ds' w' (hf.mono fun t ht => by simp only [dsts, List.mem_append]; exact .inl ht) (fun hh => hn (hnd hh).1)) hif
    | false => exact vc_frame b _ _ _ _ _ ok.2 (fun e E' ds' w' hf hn => h e E' ds' w' (hf.mono fun t ht => by simp only [dsts, List.mem_append]; exact .inr ht) (fun hh => hn (hnd hh).2)) hif
  | .block id c, E, ds, w, Q, Q', ok, h, hv => by
    simp only [codeOk] at ok
    refine vc_frame c _ _ _ _ _ ok (fun e E' ds' w' hf hn hq => ?_) hv
    cases e with
    | exit i =>
      simp only [inBlockE, tif_beq] at hq ⊢
      split
      · rename_i hi; rw [if_pos hi] at hq; exact h _ _ _ _ hf hn hq
      · rename_i hi; rw [if_neg hi] at hq; exact h _ _ _ _ hf hn hq
    | _ => exact h _ _ _ _ hf hn hq
  | .loop c, E, ds, w, Q, Q', ok, h, hv => by
    simp only [codeOk, Bool.and_eq_true] at ok
    obtain ⟨I, μ, h0, hr⟩ := hv
    refine ⟨I, μ, h0, fun h' w' hI => ?_⟩
    refine vc_frame c _ _ _ _ _ ok.1 (fun e E' ds' w'' hf hn hq => ?_) (hr h' w' hI)
    cases e with
    | normal => exact hq
    | _ =>
      refine h _ _ _ _ ?_ hn hq
      intro t ht
      rw [hf t ht, get_havoc, if_neg]
      intro hd
      rcases mem_dead.1 hd with hl | hd
      · simp only [List.mem_filter] at hl; exact ht (by simpa [dsts] using hl.2)
      · exact ht hd
  | .region id ops true, E, ds, w, Q, Q', ok, h, hv => by
    have hv : vcDraw P ops (tailAt dr id ops.size) Q E ds w := hv
    show vcDraw P ops (tailAt dr id ops.size) Q' E ds w
    unfold vcDraw at hv ⊢
    cases hth : Nat.ble 1000 (tailAt dr id ops.size).2.2 with
    | true =>
      simp only [codeOk, hth, cond_true, drawOk, Bool.and_eq_true] at ok
      rw [hth] at hv
      refine thr_frame (id := id) ?_ (thrOk_of ok.2).dst h hv
      refine List.all_eq_true.2 fun o ho => ?_
      have := List.all_eq_true.1 ok.1.1.1.2 o ho
      simp only [Bool.and_eq_true] at this
      exact this.1.1
    | false =>
    rw [hth] at hv
    simp only [codeOk, hth, cond_false, drawOk, Bool.and_eq_true] at ok
    obtain ⟨Rs, Rb, h1, h3⟩ := hv
    refine ⟨Rs, Rb, h1, ?_⟩
    have hnd : (ops.toList.all fun o => !isDefer o.op) = true := by
      refine List.all_eq_true.2 fun o ho => ?_
      have := List.all_eq_true.1 ok.1.1.1.2 o ho
      simp only [Bool.and_eq_true] at this
      exact this.1.1
    have hsub : ∀ s t, t ∈ dstsOps ops (ops.toList.drop s) → t ∈ dsts (Code.region id ops true) := fun s t ht => by
      simp only [dstsOps, List.mem_flatMap] at ht
      obtain ⟨o, ho, hot⟩ := ht
      simp only [dsts, List.mem_flatMap]
      exact ⟨o, List.mem_of_mem_drop ho, hot⟩
    have hsub2 : ∀ s t, t ∈ dstsOps ops (ops.toList.take s) → t ∈ dsts (Code.region id ops true) := fun s t ht => by
      simp only [dstsOps, List.mem_flatMap] at ht
      obtain ⟨o, ho, hot⟩ := ht
      simp only [dsts, List.mem_flatMap]
      exact ⟨o, List.mem_of_mem_take ho, hot⟩
    have hdrop : ∀ s, ((ops.toList.drop s).all fun o => !isDefer o.op) = true := fun s => List.all_eq_true.2 fun o ho => List.all_eq_true.1 hnd o (List.mem_of_mem_drop ho)
    refine detE_mono (fun ch w' hx => h _ _ _ _ (Fr.refl _ _) (fun _ => rfl) hx) _ _ _ _ (fun E' F hf hfin => ?_) h3
    have hf := hf.mono (hsub2 _)
    unfold drawFin at hfin ⊢
    cases hb : (tailAt dr id ops.size).2.1 with
    | false =>
      simp only [hb, tif_eq, Bool.false_eq_true, if_false] at hfin ⊢
      exact fun w1 hr hF => vcOps_frame _ _ _ _ _ _ (fun e E'' ds' w'' hf' hn hq => h _ _ _ _ (hf.trans (hf'.mono (hsub _))) (fun _ => hn (hdrop _)) hq) (hfin w1 hr hF)
    | true =>
      simp only [hb, tif_eq, if_true] at hfin ⊢
      cases ho : ops[(tailAt dr id ops.size).1]? with
      | none => simp [ho] at hfin
      | some o =>
        simp only [ho] at hfin ⊢
        obtain ⟨φ, h4, h5, h6⟩ := hfin
        refine ⟨φ, h4, fun w1 hr => opP_mono (h5 w1 hr) (fun _ _ h => h) (fun ch w' hx => h _ _ _ _ (Fr.refl _ _) (fun _ => rfl) hx) (fun _ _ _ h => h), fun v w1 hr hF => ?_⟩
        have h7 := h6 v w1 hr hF
        rw [ihPut_eq] at h7 ⊢
        have hod : ∀ t, o.dst = some t → t ∈ dsts (Code.region id ops true) := fun t ht => by
          simp only [dsts, List.mem_flatMap]
          exact ⟨o, Array.mem_toList_iff.2 (Array.mem_of_getElem? ho), by simp [ht]⟩
        exact vcOps_frame _ _ _ _ _ _ (fun e E'' ds' w'' hf' hn hq => h _ _ _ _ ((hf.trans (Fr.putO hod _)).trans (hf'.mono (hsub _))) (fun _ => hn (hdrop _)) hq) h7
  | .rangeFunc g ps x y, E, ds, w, Q, Q', _, h, hv => by
    have hv : vcRange P g ps (outsOf y) (vc P dr vars x) (vc P dr vars y) Q E ds w := hv
    show vcRange P g ps (outsOf y) (vc P dr vars x) (vc P dr vars y) Q' E ds w
    exact RangeE.mono hv (fun D W hh => h _ _ _ _ (Fr.refl _ _) (fun hn => by simp [noDefer] at hn) hh) (fun D W hh => h _ _ _ _ (Fr.refl _ _) (fun hn => by simp [noDefer] at hn) hh) fun i D W hh => h _ _ _ _ (Fr.refl _ _) (fun hn => by simp [noDefer] at hn) hh
  | .scope _, _, _, _, _, _, ok, _, _ => by simp [codeOk] at ok
  | .goto _, _, _, _, _, _, ok, _, _ => by simp [codeOk] at ok
  | .refuse _, _, _, _, _, _, ok, _, _ => by simp [codeOk] at ok

variable {ρ : Option Nat}
theorem upon_of_do {P : Program} {o : Oper} {a : Act} {s : Sem Next} {w : World} {next : Act → World → Prop} {Q : Exit → Act → World → Prop}
    {K : Value → World → Prop} {X : List PanicEntry → World → Prop} {D : Deferred → World → Prop} (h : Do P s w K X D)
    (hk : ∀ v w', K v w' → next (a.put o.dst v) w') (hx : ∀ c w', X c w' → Q (.panic c) a w') (hd : ∀ d w', D d w' → next ({ a with defers := d :: a.defers }.put o.dst undef) w') :
    o.uponIn (WF ρ) 0 P a next Q (s.run P w) := by
  unfold Do at h
  generalize s.run P w = r at h
  cases r with
  | ok x w' =>
    cases x <;> simp only [Oper.uponIn] at h ⊢ <;> first | exact hk _ _ h | exact hd _ _ h | exact h.elim | skip
    · refine ⟨fun _ => by contradiction, CallsIn.mono (calls_wf.2 h) fun e w'' he => ?_⟩
      cases e <;> first | exact hk _ _ he | exact hx _ _ he | exact he.elim
    · refine ⟨fun _ => by contradiction, RoundIn.mono (round_wf.2 h) fun e w'' he => ?_⟩
      cases e <;> first | exact hk _ _ he | exact hx _ _ he | exact he.elim
  | halt x w' => cases x <;> simp only [Oper.uponIn] at h ⊢ <;> first | exact hx _ _ h | exact h.elim

theorem semAt_wf {ρ : Option Nat} {f : Operand → Value} {o : Oper} (h : ρ = none ∨ isDefer o.op = false) : Oper.semAt (WF ρ).round f o = execOp f o := by
  cases ρ with
  | none => exact Oper.semAt_none _ _
  | some l =>
    rcases h with h | h
    · cases h
    · exact Oper.semAt_some l f o fun c hc => by rw [hc] at h; cases h
theorem vcOps_sound {P : Program} {n : Nat} {ops : Array Oper} {Q : Post} {Q' : Exit → Act → World → Prop}
    (hq : ∀ e E' a' ds' w', Agree n E' a' → a'.defers = ds' → Q e E' ds' w' → Q' e a' w') :
    ∀ (l : List Oper) (E : Env) (a : Act) (ds : List Deferred) (w : World), (ρ = none ∨ (l.all fun o => !isDefer o.op) = true) → opsOk n ops l = true → Agree n E a → a.defers = ds → vcOps P ops Q l E ds w → wpListIn (WF ρ) 0 P ops Q' l a w
  | [], E, a, ds, w, _, _, ha, hd, hv => hq _ _ _ _ _ ha hd hv
  | o :: rest, E, a, ds, w, okn, ok, ha, hd, hv => by
    have okn1 : ρ = none ∨ isDefer o.op = false := okn.imp id fun h => by simp only [List.all_cons, Bool.and_eq_true, Bool.not_eq_true'] at h; exact h.1
    replace okn : ρ = none ∨ (rest.all fun o => !isDefer o.op) = true := okn.imp id fun h => by simp only [List.all_cons, Bool.and_eq_true] at h; exact h.2
    simp only [opsOk, List.all_cons, Bool.and_eq_true] at ok
    obtain ⟨⟨okd, okg⟩, okr⟩ := ok
    have hdst : ∀ t, o.dst = some t → t < n := fun t ht => by simpa [ht] using okd
    have main : ∀ E1 D, Agree n E1 a → (∀ d w', D d w' → vcOps P ops Q rest (put E o.dst undef) (d :: ds) w') → opP P (ev E1) o w (fun v w' => vcOps P ops Q rest (put E1 o.dst v) ds w') (fun ch w' => Q (.panic ch) E ds w') D →
        o.wpIn (WF ρ) 0 P a w (wpListIn (WF ρ) 0 P ops Q' rest) Q' := fun E1 D h1 hD hdo => by
      unfold Oper.wpIn
      refine ⟨fun _ _ => trivial, ?_⟩
      rw [semAt_wf okn1, h1.eval]
      refine upon_of_do (do_of_opP hdo) (fun v w' hk => ?_) (fun c w' hx => hq _ _ _ _ _ ha hd hx) (fun d w' hk => ?_)
      · exact vcOps_sound hq rest _ _ _ _ okn okr (h1.put _ hdst v) (by cases hod : o.dst <;> exact hd) hk
      · exact vcOps_sound hq rest _ _ _ _ okn okr ((ha.defers _).put _ hdst undef) (by cases hod : o.dst <;> simp [Act.put, hd]) (hD _ _ hk)
    simp only [vcOps_cons, vcOp_eq] at hv
    simp only [wpListIn]
    cases hg : o.guard with
    | none =>
      simp only [hg] at hv
      rw [if_pos (by simp [Region.wanted, hg])]
      exact (main E _ ha (fun _ _ h => h) hv)
    | some jw =>
      obtain ⟨j, want⟩ := jw
      simp only [hg] at hv okg
      simp only [Bool.and_eq_true, decide_eq_true_eq] at okg
      obtain ⟨d, hd1⟩ := Option.isSome_iff_exists.1 okg.1
      have hs : slotOf ops j = d := by simp [slotOf, hd1]
      rw [hs] at hv okg
      have hval : get E d = a.tmps.getD d undef := (ha.val d).symm
      have hin : a.tmps[d]? = some (get E d) := by
        rw [hval]
        have : d < a.tmps.size := by rw [ha.size]; exact okg.2
        simp [Array.getD_eq_getD_getElem?, this]
      have hy : yielded ops a.tmps j = match get E d with | .bool b => some b | _ => none := by
        simp only [yielded, hd1, Option.bind_some, hin]
        cases get E d <;> rfl
      have hcons : ∀ b, get E d = .bool b → Agree n (put E (some d) (.bool b)) a := fun b hb => ha.congr fun t => by
        simp only [Sh.put, Sh.putO, get_cons, Option.getD_some]
        by_cases ht : t = d
        · subst ht; rw [if_pos rfl, hb]
        · rw [if_neg ht]
      cases hgo : getO E d with
      | none =>
        simp only [hgo] at hv
        have hyn : yielded ops a.tmps j = none := by
          rw [hy]
          simp [get, hgo, undef]
        rw [if_neg (by simp [Region.wanted, hg, hyn])]
        exact ⟨fun _ _ => trivial, vcOps_sound hq rest _ _ _ _ okn okr (ha.skip _ hdst) (by cases hod : o.dst <;> exact hd) hv⟩
      | some v0 =>
        simp only [hgo] at hv
        have hv0 : get E d = v0 := by simp [get, hgo]
        obtain ⟨b, hb, hif⟩ := Gd_cases hv
        rw [← hv0] at hb
        rw [hb] at hy
        simp only at hy
        by_cases hbw : b = want
        · subst hbw
          rw [if_pos rfl] at hif
          rw [if_pos (by simp [Region.wanted, hg, hy])]
          exact (main _ _ (hcons _ hb) (fun _ _ h => h.elim) hif)
        · rw [if_neg hbw] at hif
          rw [if_neg (by simp [Region.wanted, hg, hy, hbw])]
          have hb2 : b = !want := by cases b <;> cases want <;> simp_all
          rw [← hb2] at hif
          exact ⟨fun _ _ => trivial, vcOps_sound hq rest _ _ _ _ okn okr ((hcons _ hb).skip _ hdst) (by cases hod : o.dst <;> exact hd) hif⟩

noncomputable def evF (g : Nat → Value) : Operand → Value
  | .tmp t => g t
  | x => ev [] x
theorem ev_evF (E : Env) : ev E = evF (get E) := by funext x; cases x <;> rfl
def upd (g : Nat → Value) (d : Option Tmp) (v : Option Value) : Nat → Value := fun t => if d = some t then v.getD undef else g t
theorem get_putO (E : Env) (d : Option Tmp) (v : Option Value) : get (putO E d v) = upd (get E) d v := by
  funext t
  cases d with
  | none => simp [putO, upd]
  | some d =>
    simp only [putO, get_cons, upd, Option.some.injEq]
    by_cases h : t = d
    · subst h; simp
    · rw [if_neg h, if_neg (fun e => h e.symm)]
def Ob (P : Program) (ops : Array Oper) (St Dn : World → World → Prop) (w0 : World) (X : List PanicEntry → World → Prop) (o : Oper) (g : Nat → Value) (v : Option Value) (ψ : World → Prop) : Prop :=
  (∀ a b, ψ a → St a b → ψ b) ∧
  match v with
  | some c => (∀ j want, o.guard = some (j, want) → g (slotOf ops j) = .bool want) ∧ ∀ w1, St w0 w1 → opP P (evF g) o w1 (fun v w2 => v = c ∧ Dn w1 w2 ∧ ψ w2) X noD
  | none => (∃ j want, o.guard = some (j, want) ∧ g (slotOf ops j) ≠ .bool want) ∧ ∀ w, ψ w
noncomputable def lk (l : List Oper) (val : Nat → Option Value) (g : Nat → Value) : Nat → Nat → Value
  | 0 => g
  | k + 1 => upd (lk l val g k) ((l[k]?).bind (·.dst)) (val k)
theorem lk_shift (o : Oper) (l : List Oper) (v0 : Option Value) (val : Nat → Option Value) (g : Nat → Value) : ∀ k,
    lk (o :: l) (fun k => match k with | 0 => v0 | k + 1 => val k) g (k + 1) = lk l val (upd g o.dst v0) k
  | 0 => rfl
  | k + 1 => by
    have ih := lk_shift o l v0 val g k
    show upd (lk (o :: l) _ g (k + 1)) (((o :: l)[k + 1]?).bind (·.dst)) (val k) = upd (lk l val (upd g o.dst v0) k) ((l[k]?).bind (·.dst)) (val k)
    rw [ih, List.getElem?_cons_succ]
section draw
variable {P : Program} {ops : Array Oper} {St Dn Rs Rb : World → World → Prop} {w0 : World} {X : List PanicEntry → World → Prop}
theorem detStep_det (hrefl : ∀ a, Dn a a) {o : Oper} {ih : Env → (World → Prop) → Prop} {E : Env} {F : World → Prop} (h : detStep P St Dn w0 X o ih E F) :
    DetOp St Dn w0 (fun w1 K => opP P (ev E) o w1 K X noD) (fun c ψ => ih (put E o.dst c) fun w => F w ∧ ψ w) := by
  have hF : (fun w => F w ∧ True) = F := by funext w; simp
  unfold detStep at h
  cases ho : o.op <;> simp only [ho, dMov_eq, dPut_eq] at h <;> first | exact h | skip
  case move x => exact ⟨ev E x, fun _ => True, fun _ _ _ _ => trivial, fun w1 _ => by simp only [opP, ho]; exact ⟨trivial, hrefl _, trivial⟩, by show ih _ (fun w => F w ∧ True); rw [hF]; exact h⟩
  case assign x => exact ⟨ev E x, fun _ => True, fun _ _ _ _ => trivial, fun w1 _ => by simp only [opP, ho]; exact ⟨trivial, hrefl _, trivial⟩, by show ih _ (fun w => F w ∧ True); rw [hF]; exact h⟩
  case pick c a b =>
    split at h
    · rename_i hc
      exact ⟨ev E a, fun _ => True, fun _ _ _ _ => trivial, fun w1 _ => by simp only [opP, ho, hc]; exact ⟨trivial, hrefl _, trivial⟩, by show ih _ (fun w => F w ∧ True); rw [hF]; exact h⟩
    · rename_i hc
      exact ⟨ev E b, fun _ => True, fun _ _ _ _ => trivial, fun w1 _ => by simp only [opP, ho, hc]; exact ⟨trivial, hrefl _, trivial⟩, by show ih _ (fun w => F w ∧ True); rw [hF]; exact h⟩
    · exact h.elim
def StA (Rs Rb : World → World → Prop) (mv k : Nat) : World → World → Prop := cond (Nat.beq mv (k + 1)) Rs Rb
def DnA (Rs Rb : World → World → Prop) (mv k : Nat) : World → World → Prop := cond (Nat.beq mv (k + 1)) Rb Rs
theorem detE_out (hp : Pre Rs Rb) {fin : Env → (World → Prop) → Prop} : ∀ (l : List Oper) (mv : Nat) (E : Env) (F : World → Prop), detE P ops Rs Rb w0 X fin l mv E F →
    ∃ (val : Nat → Option Value) (ψ : Nat → World → Prop) (E' : Env) (F' : World → Prop), fin E' F' ∧ get E' = lk l val (get E) l.length ∧ (∀ w, F w → (∀ k, k < l.length → ψ k w) → F' w) ∧
      ∀ k o, l[k]? = some o → Ob P ops (StA Rs Rb mv k) (DnA Rs Rb mv k) w0 X o (lk l val (get E) k) (val k) (ψ k)
  | [], mv, E, F, h => ⟨fun _ => none, fun _ _ => True, E, F, h, rfl, fun _ hf _ => hf, by simp⟩
  | o :: rest, mv, E, F, h => by
    have hrefl : ∀ a, DnA Rs Rb mv 0 a a := fun a => by unfold DnA; cases Nat.beq mv (0 + 1) <;> first | exact hp.rs a | exact hp.sub _ _ (hp.rs a)
    have hstep : ∃ (v0 : Option Value) (ψ0 : World → Prop) (E1 : Env) (F1 : World → Prop), detE P ops Rs Rb w0 X fin rest mv.pred E1 F1 ∧ get E1 = upd (get E) o.dst v0 ∧ (∀ w, F w → ψ0 w → F1 w) ∧
        Ob P ops (StA Rs Rb mv 0) (DnA Rs Rb mv 0) w0 X o (get E) v0 ψ0 := by
      have hv : detOp P ops (StA Rs Rb mv 0) (DnA Rs Rb mv 0) w0 X o (detE P ops Rs Rb w0 X fin rest mv.pred) E F := h
      have hdo : ∀ E1 : Env, get E1 = get E → (∀ j want, o.guard = some (j, want) → get E (slotOf ops j) = .bool want) → detStep P (StA Rs Rb mv 0) (DnA Rs Rb mv 0) w0 X o (detE P ops Rs Rb w0 X fin rest mv.pred) E1 F →
          ∃ (v0 : Option Value) (ψ0 : World → Prop) (E1 : Env) (F1 : World → Prop), detE P ops Rs Rb w0 X fin rest mv.pred E1 F1 ∧ get E1 = upd (get E) o.dst v0 ∧ (∀ w, F w → ψ0 w → F1 w) ∧
            Ob P ops (StA Rs Rb mv 0) (DnA Rs Rb mv 0) w0 X o (get E) v0 ψ0 := fun E1 he hg hs => by
        obtain ⟨c, ψ, h1, h2, h3⟩ := detStep_det hrefl hs
        refine ⟨some c, ψ, _, _, h3, ?_, fun w hf hp => ⟨hf, hp⟩, h1, hg, fun w1 hr => ?_⟩
        · rw [put, get_putO, he]
        · have := h2 w1 hr
          rw [ev_evF, he] at this
          exact this
      unfold detOp at hv
      cases hg : o.guard with
      | none =>
        simp only [hg] at hv
        exact hdo E rfl (fun j want hh => by rw [hg] at hh; cases hh) hv
      | some jw =>
        obtain ⟨j, want⟩ := jw
        simp only [hg] at hv
        have skip : ∀ E1 : Env, get E1 = get E → get E (slotOf ops j) ≠ .bool want → dPut o.dst (detE P ops Rs Rb w0 X fin rest mv.pred) E1 none F →
            ∃ (v0 : Option Value) (ψ0 : World → Prop) (E1 : Env) (F1 : World → Prop), detE P ops Rs Rb w0 X fin rest mv.pred E1 F1 ∧ get E1 = upd (get E) o.dst v0 ∧ (∀ w, F w → ψ0 w → F1 w) ∧
              Ob P ops (StA Rs Rb mv 0) (DnA Rs Rb mv 0) w0 X o (get E) v0 ψ0 := fun E1 he hne hd => by
          rw [dPut_eq] at hd
          exact ⟨none, fun _ => True, _, _, hd, by rw [get_putO, he], fun _ hf _ => hf, fun _ _ _ _ => trivial, ⟨j, want, hg, hne⟩, fun _ => trivial⟩
        cases hgo : getO E (slotOf ops j) with
        | none =>
          simp only [hgo] at hv
          exact skip E rfl (by simp [get, hgo, undef]) hv
        | some v =>
          simp only [hgo] at hv
          obtain ⟨b, rfl, hif⟩ := Gd_cases hv
          have hge : get E (slotOf ops j) = .bool b := by simp [get, hgo]
          have hcons : ∀ b', b' = b → get ((slotOf ops j, some (.bool b')) :: E) = get E := fun b' hb => by
            subst hb
            funext t
            rw [get_cons]
            by_cases ht : t = slotOf ops j
            · subst ht; rw [if_pos rfl, hge]; rfl
            · rw [if_neg ht]
          by_cases hbw : b = want
          · rw [if_pos hbw] at hif
            exact hdo _ (hcons _ hbw.symm) (fun j' want' hh => by rw [hg] at hh; cases hh; rw [hge, hbw]) hif
          · rw [if_neg hbw] at hif
            exact skip _ (hcons _ (by cases b <;> cases want <;> simp_all)) (by rw [hge]; simpa using hbw) hif
    obtain ⟨v0, ψ0, E1, F1, hd, he, hF, hob⟩ := hstep
    obtain ⟨val, ψ, E', F', hfin, hget, hFF, hobs⟩ := detE_out hp rest mv.pred E1 F1 hd
    refine ⟨(fun k => match k with | 0 => v0 | k + 1 => val k), (fun k => match k with | 0 => ψ0 | k + 1 => ψ k), E', F', hfin, ?_, ?_, ?_⟩
    · rw [List.length_cons, lk_shift, hget, he]
    · intro w hf hall
      exact hFF w (hF w hf (hall 0 (by simp))) fun k hk => hall (k + 1) (by simpa using hk)
    · intro k o' hk
      cases k with
      | zero => simp only [List.getElem?_cons_zero, Option.some.injEq] at hk; subst hk; exact hob
      | succ k =>
        rw [List.getElem?_cons_succ] at hk
        rw [lk_shift, ← he]
        have h1 : StA Rs Rb mv (k + 1) = StA Rs Rb mv.pred k := by unfold StA; congr 1; rw [Bool.eq_iff_iff]; simp only [Nat.beq_eq]; simp only [Nat.pred_eq_sub_one]; omega
        have h2 : DnA Rs Rb mv (k + 1) = DnA Rs Rb mv.pred k := by unfold DnA; congr 1; rw [Bool.eq_iff_iff]; simp only [Nat.beq_eq]; simp only [Nat.pred_eq_sub_one]; omega
        rw [h1, h2]
        exact hobs k o' hk

theorem mem_pre {i j : Nat} {o : Oper} (ho : ops[i]? = some o) : j ∈ pre ops i ↔ ∃ e, e ∈ o.after ∧ Region.binds .any e = true ∧ e.on = j := by
  simp only [pre, ho, Option.map_some, Option.getD_some, List.mem_map, List.mem_filter, Array.mem_toList_iff]
  constructor
  · rintro ⟨e, ⟨h1, h2⟩, h3⟩; exact ⟨e, h1, h2, h3⟩
  · rintro ⟨e, h1, h2, h3⟩; exact ⟨e, ⟨h1, h2⟩, h3⟩
theorem mem_ready {listed : Array Bool} {i : Nat} (hsz : listed.size = ops.size) : i ∈ Region.ready .any ops listed ↔ i < ops.size ∧ listed.getD i false = false ∧ ∀ j, j ∈ pre ops i → listed.getD j false = true := by
  unfold Region.ready
  rw [List.mem_filter, List.mem_range]
  constructor
  · rintro ⟨h1, h2⟩
    obtain ⟨o, ho⟩ : ∃ o, ops[i]? = some o := ⟨ops[i], by simp [h1]⟩
    simp only [Bool.and_eq_true, Bool.not_eq_true', ho, Option.map_some, Option.getD_some] at h2
    refine ⟨h1, ?_, fun j hj => ?_⟩
    · have : i < listed.size := by omega
      simpa [Array.getD_eq_getD_getElem?, this] using h2.1
    · obtain ⟨e, he, hb, rfl⟩ := (mem_pre ho).1 hj
      have := Array.all_eq_true'.1 h2.2 e he
      simpa [hb] using this
  · rintro ⟨h1, h2, h3⟩
    obtain ⟨o, ho⟩ : ∃ o, ops[i]? = some o := ⟨ops[i], by simp [h1]⟩
    refine ⟨h1, ?_⟩
    have : i < listed.size := by omega
    simp only [Bool.and_eq_true, Bool.not_eq_true', ho, Option.map_some, Option.getD_some]
    refine ⟨by simpa [Array.getD_eq_getD_getElem?, this] using h2, Array.all_eq_true'.2 fun e he => ?_⟩
    by_cases hb : Region.binds .any e = true
    · simpa [hb] using h3 _ ((mem_pre ho).2 ⟨e, he, hb, rfl⟩)
    · simp [hb]
def un (listed : Array Bool) : Nat → Nat
  | 0 => 0
  | i + 1 => un listed i + (if listed.getD i false = true then 0 else 1)
theorem getD_set {listed : Array Bool} {k i : Nat} (hk : k < listed.size) : (listed.setIfInBounds k true).getD i false = if i = k then true else listed.getD i false := by
  simp only [Array.getD_eq_getD_getElem?, Array.getElem?_setIfInBounds]
  by_cases h : i = k
  · subst h; simp [hk]
  · rw [if_neg (fun e => h e.symm), if_neg h]
theorem un_set {listed : Array Bool} {k : Nat} (hk : k < listed.size) (hf : listed.getD k false = false) : ∀ m, un listed m = un (listed.setIfInBounds k true) m + (if k < m then 1 else 0)
  | 0 => by simp [un]
  | m + 1 => by
    have ih := un_set hk hf m
    simp only [un, getD_set hk]
    by_cases h : m = k
    · subst h; simp [hf, ih]
    · rw [if_neg h, ih]
      by_cases h2 : k < m
      · rw [if_pos h2, if_pos (show k < m + 1 by omega)]; omega
      · rw [if_neg h2, if_neg (show ¬ k < m + 1 by omega)]; omega
theorem un_zero {listed : Array Bool} : ∀ {m : Nat}, un listed m = 0 → ∀ i, i < m → listed.getD i false = true
  | m + 1, h, i, hi => by
    simp only [un] at h
    by_cases hm : listed.getD m false = true
    · by_cases him : i = m
      · subst him; exact hm
      · exact un_zero (m := m) (by rw [if_pos hm] at h; omega) i (by omega)
    · rw [if_neg hm] at h; omega
theorem un_full {listed : Array Bool} : ∀ {m : Nat}, (∀ i, i < m → listed.getD i false = true) → un listed m = 0
  | 0, _ => rfl
  | m + 1, h => by
    simp only [un, if_pos (h m (by omega))]
    exact un_full fun i hi => h i (by omega)

structure Checks (ops : Array Oper) (s : Nat) (L : List Nat := []) : Prop where
  le : s ≤ ops.size
  plain : ∀ (o : Oper), o ∈ ops → isDefer o.op = false ∧ ∀ cs b, o.op ≠ .select cs b
  lt : ∀ i j, i < ops.size → j ∈ pre ops i → j < i
  lag : ∀ j, j ∈ L → j < s
  dep : ∀ k j, k < ops.size → j < k → ((k < s ∨ j ∈ L) ∧ ∀ x y, ops[j]? = some x → ops[k]? = some y → clash ops x y = false) ∨ j ∈ clo ops 12 k
theorem Checks.nodef {ops : Array Oper} {s : Nat} {L : List Nat} (C : Checks ops s L) (k : Nat) : ((ops.toList.drop k).all fun o => !isDefer o.op) = true :=
  List.all_eq_true.2 fun o ho => by rw [(C.plain o (Array.mem_toList_iff.1 (List.mem_of_mem_drop ho))).1]; rfl
theorem checks_of {n : Nat} {rs : List Nat} {s : Nat} {L : List Nat} (hL : ∀ j, j ∈ L → j < s) (h : drawOk n rs ops s L = true) : Checks ops s L ∧ opsOk n ops ops.toList = true ∧ ∀ o, o ∈ ops.toList → ∀ d, o.dst = some d → d ∉ rs := by
  simp only [drawOk, Bool.and_eq_true, decide_eq_true_eq] at h
  obtain ⟨⟨⟨⟨h1, h2⟩, h3⟩, h4⟩, h5⟩ := h
  refine ⟨⟨h1, fun o ho => ?_, fun i j hi hj => ?_, hL, fun k j hk hj => ?_⟩, h2, fun o ho d hd => ?_⟩
  · have := List.all_eq_true.1 h3 o (Array.mem_toList_iff.2 ho)
    simp only [Bool.and_eq_true, Bool.not_eq_true'] at this
    exact ⟨this.1.1, fun cs b e => by rw [e] at this; exact absurd this.1.2 (by simp)⟩
  · have := List.all_eq_true.1 (List.all_eq_true.1 h4 i (List.mem_range.2 hi)) j hj
    simpa using this
  · have := List.all_eq_true.1 (List.all_eq_true.1 h5 k (List.mem_range.2 hk)) j (List.mem_range.2 hj)
    simp only [Bool.or_eq_true, Bool.and_eq_true, Bool.not_eq_true', decide_eq_false_iff_not, List.contains_iff_mem] at this
    rcases this with ⟨ha, hb⟩ | hc
    · refine .inl ⟨ha.imp (fun h => by omega) (fun h => any_beq.1 h), fun x y hx hy => ?_⟩
      simpa [hx, hy] using hb
    · exact .inr hc
  · have := List.all_eq_true.1 h3 o ho
    simp only [Bool.and_eq_true, hd] at this
    simpa using this.2
theorem clo_listed {listed : Array Bool} (hlt : ∀ i j, i < ops.size → j ∈ pre ops i → j < i) (hdown : ∀ i, i < ops.size → listed.getD i false = true → ∀ j, j ∈ pre ops i → listed.getD j false = true) :
    ∀ (f i : Nat), i < ops.size → (∀ j, j ∈ pre ops i → listed.getD j false = true) → ∀ j, j ∈ clo ops f i → listed.getD j false = true
  | 0, _, _, _, j, hj => by simp [clo] at hj
  | f + 1, i, hi, hp, j, hj => by
    simp only [clo, List.mem_append, List.mem_flatMap] at hj
    rcases hj with hj | ⟨k, hk, hj⟩
    · exact hp j hj
    · have hki := hlt i k hi hk
      exact clo_listed hlt hdown f k (by omega) (hdown k (by omega) (hp k hk)) j hj

theorem tail_any {s : Nat} {Q' : Exit → Act → World → Prop} (C : Checks ops s) : ∀ (fuel k : Nat) (listed : Array Bool) (a : Act) (w1 : World), s ≤ k → k ≤ ops.size → listed.size = ops.size → (∀ i, i < ops.size → (listed.getD i false = true ↔ i < k)) →
    fuel = un listed ops.size → wpListIn (WF ρ) 0 P ops Q' (ops.toList.drop k) a w1 → wpAnyIn (WF ρ) 0 P .any ops Q' fuel listed a w1 := by
  intro fuel
  induction fuel with
  | zero =>
    intro k listed a w1 hs hk hsz hl hf hw
    have hall := un_zero (listed := listed) (m := ops.size) hf.symm
    have hkk : k = ops.size := by
      rcases Nat.lt_or_ge k ops.size with h | h
      · have := (hl k h).1 (hall k h); omega
      · omega
    subst hkk
    rw [List.drop_of_length_le (by simp)] at hw
    refine ⟨?_, hw⟩
    refine List.eq_nil_iff_forall_not_mem.2 fun i hi => ?_
    obtain ⟨h1, h2, _⟩ := (mem_ready hsz).1 hi
    rw [hall i h1] at h2; cases h2
  | succ fuel ih =>
    intro k listed a w1 hs hk hsz hl hf hw
    have hklt : k < ops.size := by
      rcases Nat.lt_or_ge k ops.size with h | h
      · exact h
      · rw [un_full fun i hi => (hl i hi).2 (by omega)] at hf; omega
    obtain ⟨o, ho⟩ : ∃ o, ops[k]? = some o := ⟨ops[k], by simp [hklt]⟩
    have hkn : listed.getD k false = false := by
      cases hh : listed.getD k false with
      | false => rfl
      | true => have := (hl k hklt).1 hh; omega
    have hready : ∀ i, i ∈ Region.ready .any ops listed → i = k := fun i hi => by
      obtain ⟨h1, h2, h3⟩ := (mem_ready hsz).1 hi
      rcases Nat.lt_trichotomy i k with h | h | h
      · rw [(hl i h1).2 h] at h2; cases h2
      · exact h
      · rcases C.dep i k h1 h with ⟨hd, _⟩ | hd
        · rcases hd with hd | hd
          · omega
          · cases hd
        · have hdown : ∀ i, i < ops.size → listed.getD i false = true → ∀ j, j ∈ pre ops i → listed.getD j false = true := fun i' hi' hli j hj => by
            have hlt := C.lt i' j hi' hj
            exact (hl j (by omega)).2 (by have := (hl i' hi').1 hli; omega)
          rw [clo_listed C.lt hdown 12 i h1 h3 k hd] at hkn; cases hkn
    have hkr : k ∈ Region.ready .any ops listed := (mem_ready hsz).2 ⟨hklt, hkn, fun j hj => by
      have hlt := C.lt k j hklt hj
      exact (hl j (by omega)).2 hlt⟩
    refine ⟨fun hn => ?_, fun i hi => ?_⟩
    · rw [hn] at hkr; simp at hkr
    · have hik := hready i hi
      subst hik
      have hdrop : ops.toList.drop i = o :: ops.toList.drop (i + 1) := by
        have hlen : i < ops.toList.length := by simpa using hklt
        rw [List.drop_eq_getElem_cons hlen]
        congr 1
        have : ops[i] = o := by simpa [hklt] using ho
        simpa using this
      rw [hdrop] at hw
      have hk2 : ∀ a' w2, wpListIn (WF ρ) 0 P ops Q' (ops.toList.drop (i + 1)) a' w2 → wpAnyIn (WF ρ) 0 P .any ops Q' fuel (listed.setIfInBounds i true) a' w2 := fun a' w2 h => by
        refine ih (i + 1) _ a' w2 (by omega) (by omega) (by simpa using hsz) (fun j hj => ?_) ?_ h
        · rw [getD_set (by omega)]
          by_cases hji : j = i
          · subst hji; simp
          · rw [if_neg hji, hl j hj]; omega
        · have := un_set (listed := listed) (k := i) (by omega) hkn ops.size
          rw [if_pos hklt] at this
          omega
      unfold wpOpIn
      simp only [ho]
      simp only [wpListIn] at hw
      split
      · rename_i hwd; rw [if_pos hwd] at hw; exact Oper.wpIn_mono hk2 hw
      · rename_i hwd; rw [if_neg hwd] at hw; exact ⟨fun _ _ => trivial, hk2 _ _ hw.2⟩

noncomputable def look (ops : Array Oper) (val : Nat → Option Value) (g : Nat → Value) (listed : Array Bool) : Nat → Nat → Value
  | 0 => g
  | k + 1 => if listed.getD k false = true then upd (look ops val g listed k) ((ops[k]?).bind (·.dst)) (val k) else look ops val g listed k
structure Inv (ops : Array Oper) (Rs Rb : World → World → Prop) (mv : Nat) (w0 : World) (n s : Nat) (val : Nat → Option Value) (ψ : Nat → World → Prop) (g : Nat → Value) (ds : List Deferred) (listed : Array Bool) (a : Act) (w1 : World) : Prop where
  size : listed.size = ops.size
  down : ∀ i, i < ops.size → listed.getD i false = true → ∀ j, j ∈ pre ops i → listed.getD j false = true
  asize : a.tmps.size = n
  vals : ∀ t, a.tmps.getD t undef = look ops val g listed s t
  defers : a.defers = ds
  rel : Rb w0 w1
  relm : ∀ m, mv = m + 1 → listed.getD m false = false → Rs w0 w1
  facts : ∀ k, k < s → listed.getD k false = true → ψ k w1
  lo : ∀ k, k < ops.size → s ≤ k → listed.getD k false = false

theorem clash_dst {x y : Oper} {d : Tmp} (h : clash ops x y = false) (hx : x.dst = some d) : d ∉ y.looksAt ops ∧ y.dst ≠ some d := by
  simp only [clash, hx, Bool.or_eq_false_iff] at h
  refine ⟨by simpa using h.1.1, by simpa using h.1.2⟩
theorem clash_dst' {x y : Oper} {d : Tmp} (h : clash ops x y = false) (hy : y.dst = some d) : d ∉ x.looksAt ops ∧ x.dst ≠ some d := by
  simp only [clash, hy, Bool.or_eq_false_iff] at h
  refine ⟨by simpa using h.2, fun e => ?_⟩
  rw [e] at h
  simp at h

theorem lk_env (l : List Oper) (val : Nat → Option Value) (g : Nat → Value) (hg : ∃ E0, get E0 = g) : ∀ k, ∃ E, get E = lk l val g k
  | 0 => hg
  | k + 1 => by
    obtain ⟨E, hE⟩ := lk_env l val g hg k
    exact ⟨putO E ((l[k]?).bind (·.dst)) (val k), by rw [get_putO, hE]; rfl⟩
theorem beq_false {a b : Nat} (h : a ≠ b) : Nat.beq a b = false := by
  cases hb : Nat.beq a b
  · rfl
  · exact absurd (Nat.eq_of_beq_eq_true hb) h
theorem DnA_sub {mv k : Nat} (h : Pre Rs Rb) {x y : World} (hr : DnA Rs Rb mv k x y) : Rb x y := by
  unfold DnA at hr
  cases hb : Nat.beq mv (k + 1) <;> rw [hb] at hr
  · exact h.sub _ _ hr
  · exact hr
theorem DnA_St {mv k j : Nat} (h : Pre Rs Rb) (hne : j ≠ k) {x y : World} (hr : DnA Rs Rb mv k x y) : StA Rs Rb mv j x y := by
  unfold StA
  cases hb : Nat.beq mv (j + 1)
  · exact DnA_sub h hr
  · have : Nat.beq mv (k + 1) = false := by
      have := Nat.eq_of_beq_eq_true hb
      subst this
      exact beq_false (by omega)
    unfold DnA at hr
    rw [this] at hr
    exact hr
theorem DnA_refl {mv k : Nat} (h : Pre Rs Rb) (x : World) : DnA Rs Rb mv k x x := by
  unfold DnA
  cases Nat.beq mv (k + 1)
  · exact h.rs x
  · exact h.sub _ _ (h.rs x)
theorem Inv.at_ {mv n s : Nat} {val : Nat → Option Value} {ψ : Nat → World → Prop} {g : Nat → Value} {ds : List Deferred} {listed : Array Bool} {a : Act} {w1 : World} (I : Inv ops Rs Rb mv w0 n s val ψ g ds listed a w1) {k : Nat} (hk : listed.getD k false = false) : StA Rs Rb mv k w0 w1 := by
  unfold StA
  cases hb : Nat.beq mv (k + 1)
  · exact I.rel
  · exact I.relm k (Nat.eq_of_beq_eq_true hb) hk
theorem draw_step {mv n s : Nat} {val : Nat → Option Value} {ψ : Nat → World → Prop} {g : Nat → Value} {ds : List Deferred} {L : List Nat} (C : Checks ops s L)
    (hpre : Pre Rs Rb) (hdst : ∀ (o : Oper) d, o ∈ ops → o.dst = some d → d < n)
    (hgs : ∀ (o : Oper) j want, o ∈ ops → o.guard = some (j, want) → ∃ d, (ops[j]?).bind (·.dst) = some d ∧ d < n)
    {listed : Array Bool} {a : Act} {w1 : World} (I : Inv ops Rs Rb mv w0 n s val ψ g ds listed a w1) {k : Nat} (hk : k ∈ Region.ready .any ops listed) (hks : k < s) {o : Oper} (ho : ops[k]? = some o) :
    (∀ t, t ∈ o.looksAt ops → a.tmps.getD t undef = lk ops.toList val g k t) ∧
    (∀ (v : Option Value) w2, v.getD undef = (val k).getD undef → DnA Rs Rb mv k w1 w2 → ψ k w2 → (∀ j, j < s → listed.getD j false = true → ψ j w1 → ψ j w2) →
      Inv ops Rs Rb mv w0 n s val ψ g ds (listed.setIfInBounds k true) (a.put o.dst (v.getD undef)) w2) ∧
    (∀ j want, o.guard = some (j, want) → ((yielded ops a.tmps j == some want) = true ↔ lk ops.toList val g k (slotOf ops j) = .bool want)) := by
  have hget : ∀ k : Nat, ops.toList[k]? = ops[k]? := fun k => by simp
  have hle := C.le
  obtain ⟨hkm, hkn, hkp⟩ := (mem_ready I.size).1 hk
  have hclo : ∀ j, j ∈ clo ops 12 k → listed.getD j false = true := clo_listed C.lt I.down 12 k hkm hkp
  have homem : o ∈ ops := Array.mem_of_getElem? ho
  -- whoever stands behind k and has run does not clash with it
  have later : ∀ b y, k < b → b < s → listed.getD b false = true → ops[b]? = some y → clash ops o y = false := fun b y hkb hbs hlb hy => by
    rcases C.dep b k (by omega) hkb with ⟨_, hc⟩ | hc
    · exact hc o y ho hy
    · rw [clo_listed C.lt I.down 12 b (by omega) (I.down b (by omega) hlb) k hc] at hkn; cases hkn
  -- whoever stands ahead of k and clashes with it has run
  have ahead : ∀ b x, b < k → ops[b]? = some x → listed.getD b false = true ∨ clash ops x o = false := fun b x hbk hx => by
    rcases C.dep k b hkm hbk with ⟨_, hc⟩ | hc
    · exact .inr (hc x o hx ho)
    · exact .inl (hclo b hc)
  have slots : ∀ t, t ∈ o.looksAt ops → ∀ b, b ≤ s → look ops val g listed b t = lk ops.toList val g (min b k) t := fun t ht b => by
    induction b with
    | zero => intro _; simp [look, lk]
    | succ b ihb =>
      intro hb
      have ih' := ihb (by omega)
      rcases Nat.lt_trichotomy b k with h | h | h
      · rw [show min (b + 1) k = b + 1 by omega]
        rw [show min b k = b by omega] at ih'
        obtain ⟨x, hx⟩ : ∃ x, ops[b]? = some x := ⟨ops[b], by simp [show b < ops.size by omega]⟩
        simp only [look, lk, hget, hx, Option.bind_some]
        by_cases hlb : listed.getD b false = true
        · rw [if_pos hlb]; simp only [upd]; split
          · rfl
          · exact ih'
        · rw [if_neg hlb, ih']
          rcases ahead b x h hx with ha | ha
          · exact absurd ha hlb
          · simp only [upd]
            rw [if_neg]
            intro he
            exact (clash_dst ha he).1 ht
      · subst h
        rw [show min (b + 1) b = b by omega]
        rw [show min b b = b by omega] at ih'
        simp only [look]
        rw [if_neg (by rw [hkn]; decide)]
        exact ih'
      · rw [show min (b + 1) k = k by omega]
        rw [show min b k = k by omega] at ih'
        simp only [look]
        by_cases hlb : listed.getD b false = true
        · rw [if_pos hlb]
          obtain ⟨y, hy⟩ : ∃ y, ops[b]? = some y := ⟨ops[b], by simp [show b < ops.size by omega]⟩
          simp only [hy, Option.bind_some, upd]
          rw [if_neg, ih']
          intro he
          exact (clash_dst' (later b y h (by omega) hlb hy) he).1 ht
        · rw [if_neg hlb]; exact ih'
  have hslot : ∀ t, t ∈ o.looksAt ops → a.tmps.getD t undef = lk ops.toList val g k t := fun t ht => by
    rw [I.vals t, slots t ht s (Nat.le_refl _), show min s k = k by omega]
  have hnew : ∀ t, look ops val g (listed.setIfInBounds k true) s t = upd (look ops val g listed s) o.dst (val k) t := fun t => by
    have key : ∀ b, b ≤ s → look ops val g (listed.setIfInBounds k true) b t = if k < b then upd (look ops val g listed b) o.dst (val k) t else look ops val g listed b t := fun b => by
      induction b with
      | zero => intro _; simp [look]
      | succ b ihb =>
        intro hb
        have ih' := ihb (by omega)
        have hksz : k < listed.size := by rw [I.size]; exact hkm
        simp only [look, getD_set hksz]
        rcases Nat.lt_trichotomy b k with h | h | h
        · rw [if_neg (show ¬ k < b by omega)] at ih'
          rw [if_neg (show ¬ k < b + 1 by omega), if_neg (show ¬ b = k by omega)]
          by_cases hlb : listed.getD b false = true
          · rw [if_pos hlb, if_pos hlb]; simp only [upd]; split
            · rfl
            · exact ih'
          · rw [if_neg hlb, if_neg hlb]; exact ih'
        · subst h
          rw [if_neg (show ¬ b < b by omega)] at ih'
          rw [if_pos (show b < b + 1 by omega), if_pos rfl, if_pos rfl]
          rw [if_neg (show ¬ listed.getD b false = true by rw [hkn]; decide)]
          simp only [ho, Option.bind_some, upd]
          split
          · rfl
          · exact ih'
        · rw [if_pos h] at ih'
          rw [if_pos (show k < b + 1 by omega), if_neg (show ¬ b = k by omega)]
          by_cases hlb : listed.getD b false = true
          · rw [if_pos hlb, if_pos hlb]
            obtain ⟨y, hy⟩ : ∃ y, ops[b]? = some y := ⟨ops[b], by simp [show b < ops.size by omega]⟩
            have hcl := later b y h (by omega) hlb hy
            simp only [hy, Option.bind_some, upd] at ih' ⊢
            by_cases hyt : y.dst = some t
            · rw [if_pos hyt, if_neg (clash_dst' hcl hyt).2, if_pos hyt]
            · rw [if_neg hyt, if_neg hyt]; exact ih'
          · rw [if_neg hlb, if_neg hlb]; exact ih'
    rw [key s (Nat.le_refl _), if_pos hks]
  have inv' : ∀ (v : Option Value) w2, v.getD undef = (val k).getD undef → DnA Rs Rb mv k w1 w2 → ψ k w2 → (∀ j, j < s → listed.getD j false = true → ψ j w1 → ψ j w2) → Inv ops Rs Rb mv w0 n s val ψ g ds (listed.setIfInBounds k true) (a.put o.dst (v.getD undef)) w2 := fun v w2 hv hr hp hst => by
    have hksz : k < listed.size := by rw [I.size]; exact hkm
    refine ⟨by simpa using I.size, fun i hi hli j hj => ?_, ?_, fun t => ?_, ?_, hpre.tb _ _ _ I.rel (DnA_sub hpre hr), fun m hm hlm => ?_, fun j hj hlj => ?_, fun j hj hsj => ?_⟩
    · rw [getD_set hksz] at hli ⊢
      by_cases hjk : j = k
      · rw [if_pos hjk]
      · rw [if_neg hjk]
        by_cases hik : i = k
        · subst hik; exact hkp j hj
        · rw [if_neg hik] at hli; exact I.down i hi hli j hj
    · cases hod : o.dst <;> simp [Act.put, I.asize]
    · rw [hnew t]
      cases hod : o.dst with
      | none => simp only [Act.put, upd]; rw [if_neg (by simp)]; exact I.vals t
      | some d =>
        have hdn := hdst o d homem hod
        have := (Agree.putO (n := n) (E := []) (a := a) (d := some d) (v := some (v.getD undef)))
        simp only [upd, Option.some.injEq]
        by_cases hdt : d = t
        · subst hdt
          rw [if_pos rfl, ← hv]
          simp [Act.put, Array.getD_eq_getD_getElem?, I.asize, hdn]
        · rw [if_neg hdt, ← I.vals t]
          simp [Act.put, Array.getD_eq_getD_getElem?, Array.getElem?_setIfInBounds_ne hdt]
    · cases hod : o.dst <;> simp [Act.put, I.defers]
    · rw [getD_set hksz] at hlm
      have hmk : m ≠ k := fun e => by rw [if_pos e] at hlm; cases hlm
      rw [if_neg hmk] at hlm
      exact hpre.ts _ _ _ (I.relm m hm hlm) (by unfold DnA at hr; rw [hm, beq_false (show m + 1 ≠ k + 1 by omega)] at hr; exact hr)
    · rw [getD_set hksz] at hlj
      by_cases hjk : j = k
      · subst hjk; exact hp
      · rw [if_neg hjk] at hlj
        exact hst j hj hlj (I.facts j hj hlj)
    · rw [getD_set hksz, if_neg (show ¬ j = k by omega)]
      exact I.lo j hj hsj
  have hyield : ∀ j want, o.guard = some (j, want) → ((yielded ops a.tmps j == some want) = true ↔ lk ops.toList val g k (slotOf ops j) = .bool want) := fun j want hg => by
    obtain ⟨d, hd, hdn⟩ := hgs o j want homem hg
    have hs : slotOf ops j = d := by simp [slotOf, hd]
    have hmem : d ∈ o.looksAt ops := by simp [Oper.looksAt, hg, hd]
    have hv := hslot d hmem
    have hin : a.tmps[d]? = some (a.tmps.getD d undef) := by
      have : d < a.tmps.size := by rw [I.asize]; exact hdn
      simp [Array.getD_eq_getD_getElem?, this]
    rw [hs, ← hv]
    simp only [yielded, hd, Option.bind_some, hin]
    cases a.tmps.getD d undef <;> simp
  exact ⟨hslot, inv', hyield⟩
theorem look_congr {val val' : Nat → Option Value} {g : Nat → Value} {listed : Array Bool} (h : ∀ k, listed.getD k false = true → val k = val' k) : ∀ k, look ops val g listed k = look ops val' g listed k
  | 0 => rfl
  | k + 1 => by
    simp only [look, look_congr h k]
    by_cases hl : listed.getD k false = true
    · rw [if_pos hl, if_pos hl, h k hl]
    · rw [if_neg hl, if_neg hl]
theorem lk_congr {l : List Oper} {val val' : Nat → Option Value} {g : Nat → Value} : ∀ k, (∀ j, j < k → val j = val' j) → lk l val g k = lk l val' g k
  | 0, _ => rfl
  | k + 1, h => by simp only [lk]; rw [lk_congr k fun j hj => h j (by omega), h k (by omega)]
def Fin (ρ : Option Nat) (P : Program) (ops : Array Oper) (Rb : World → World → Prop) (w0 : World) (n s : Nat) (g : Nat → Value) (ds : List Deferred) (Q' : Exit → Act → World → Prop) (val : Nat → Option Value) (ψ : Nat → World → Prop) : Prop :=
  ∀ (a : Act) w1, a.tmps.size = n → (∀ t, a.tmps.getD t undef = lk ops.toList val g s t) → a.defers = ds → Rb w0 w1 → (∀ k, k < s → ψ k w1) → wpListIn (WF ρ) 0 P ops Q' (ops.toList.drop s) a w1
theorem draw_any {mv n s d : Nat} {g : Nat → Value} {ds : List Deferred} {Q' : Exit → Act → World → Prop} {φ : Value → World → Prop} (C : Checks ops s) (hd : s ≤ d + 1)
    (hpre : Pre Rs Rb) (hdst : ∀ (o : Oper) d, o ∈ ops → o.dst = some d → d < n)
    (hgs : ∀ (o : Oper) j want, o ∈ ops → o.guard = some (j, want) → ∃ d, (ops[j]?).bind (·.dst) = some d ∧ d < n) (hg0 : ∃ E0, get E0 = g)
    (hX : ∀ ch w1 (a : Act) (listed : Array Bool) val ψ, Inv ops Rs Rb mv w0 n s val ψ g ds listed a w1 → ∀ w2, X ch w2 → Q' (.panic ch) a w2)
    (hφ : ∀ v a b, φ v a → StA Rs Rb mv d a b → φ v b) :
    ∀ (fuel : Nat) (listed : Array Bool) (a : Act) (w1 : World) (val : Nat → Option Value) (ψ : Nat → World → Prop), Inv ops Rs Rb mv w0 n s val ψ g ds listed a w1 →
      (∀ k o, k < s → k ≠ d → ops[k]? = some o → Ob P ops (StA Rs Rb mv k) (DnA Rs Rb mv k) w0 X o (lk ops.toList val g k) (val k) (ψ k)) →
      (∀ x y, ψ d x → StA Rs Rb mv d x y → ψ d y) →
      (d < s → listed.getD d false = false → (∀ o, ops[d]? = some o → o.guard = none ∧ ∀ w1, StA Rs Rb mv d w0 w1 → opP P (evF (lk ops.toList val g d)) o w1 (fun v w2 => DnA Rs Rb mv d w1 w2 ∧ φ v w2) X noD) ∧
        ∀ v, Fin ρ P ops Rb w0 n s g ds Q' (fun k => if k = d then some v else val k) (fun k => if k = d then φ v else ψ k)) →
      ((d < s → listed.getD d false = true) → Fin ρ P ops Rb w0 n s g ds Q' val ψ) →
      fuel = un listed ops.size → wpAnyIn (WF ρ) 0 P .any ops Q' fuel listed a w1 := by
  have hget : ∀ k : Nat, ops.toList[k]? = ops[k]? := fun k => by simp
  have hle := C.le
  have full : ∀ (listed : Array Bool) (val : Nat → Option Value), (∀ k, k < s → listed.getD k false = true) → ∀ k, k ≤ s → look ops val g listed k = lk ops.toList val g k := fun listed val hall k => by
    induction k with
    | zero => intro _; rfl
    | succ k ih => intro hk; simp only [look, lk, if_pos (hall k (by omega)), ih (by omega), hget]
  have done : ∀ (fuel : Nat) (listed : Array Bool) (a : Act) (w1 : World) (val : Nat → Option Value) (ψ : Nat → World → Prop), Inv ops Rs Rb mv w0 n s val ψ g ds listed a w1 → Fin ρ P ops Rb w0 n s g ds Q' val ψ →
      fuel = un listed ops.size → (∀ k, k < s → listed.getD k false = true) → wpAnyIn (WF ρ) 0 P .any ops Q' fuel listed a w1 :=
    fun fuel listed a w1 val ψ I hfin hf hall => by
    refine tail_any C fuel s listed a w1 (Nat.le_refl _) C.le I.size (fun i hi => ⟨fun h => ?_, fun h => hall i h⟩) hf ?_
    · rcases Nat.lt_or_ge i s with hh | hh
      · exact hh
      · rw [I.lo i hi hh] at h; cases h
    · exact hfin a w1 I.asize (fun t => by rw [I.vals t, full listed val hall s (Nat.le_refl _)]) I.defers I.rel fun k hk => I.facts k hk (hall k hk)
  intro fuel
  induction fuel with
  | zero =>
    intro listed a w1 val ψ I hob hst hnd hfin hf
    have hall := un_zero (listed := listed) (m := ops.size) hf.symm
    exact done 0 listed a w1 val ψ I (hfin fun hds => hall d (by omega)) hf fun k hk => hall k (by omega)
  | succ fuel ih =>
    intro listed a w1 val ψ I hob hst hnd hfin hf
    by_cases hall : ∀ k, k < s → listed.getD k false = true
    · exact done _ listed a w1 val ψ I (hfin fun hds => hall d hds) hf hall
    · have hex : ∃ k, k < s ∧ listed.getD k false = false := by
        refine Classical.byContradiction fun hn => hall fun k hk => ?_
        cases hh : listed.getD k false with
        | true => rfl
        | false => exact absurd ⟨k, hk, hh⟩ hn
      have hmin : ∃ k, k < s ∧ listed.getD k false = false ∧ ∀ j, j < k → listed.getD j false = true := by
        obtain ⟨k, hk⟩ := hex
        revert hk
        induction k using Nat.strongRecOn with
        | _ k ihk =>
          intro hk
          by_cases hj : ∃ j, j < k ∧ listed.getD j false = false
          · obtain ⟨j, hj1, hj2⟩ := hj
            exact ihk j hj1 ⟨by omega, hj2⟩
          · refine ⟨k, hk.1, hk.2, fun j hjk => ?_⟩
            cases hh : listed.getD j false with
            | true => rfl
            | false => exact absurd ⟨j, hjk, hh⟩ hj
      obtain ⟨k0, hk0, hk0n, hk0m⟩ := hmin
      have hr0 : k0 ∈ Region.ready .any ops listed := (mem_ready I.size).2 ⟨by omega, hk0n, fun j hj => hk0m j (C.lt k0 j (by omega) hj)⟩
      refine ⟨fun hn => (by rw [hn] at hr0; simp at hr0), fun k hk => ?_⟩
      obtain ⟨hkm, hkn, hkp⟩ := (mem_ready I.size).1 hk
      have hks : k < s := by
        rcases Nat.lt_or_ge k s with h | h
        · exact h
        · rcases C.dep k k0 hkm (by omega) with ⟨hd, _⟩ | hd
          · rcases hd with hd | hd
            · omega
            · cases hd
          · rw [clo_listed C.lt I.down 12 k hkm hkp k0 hd] at hk0n; cases hk0n
      obtain ⟨o, ho⟩ : ∃ o, ops[k]? = some o := ⟨ops[k], by simp [hkm]⟩
      have homem : o ∈ ops := Array.mem_of_getElem? ho
      have hksz : k < listed.size := by rw [I.size]; exact hkm
      have hfuel : fuel = un (listed.setIfInBounds k true) ops.size := by
        have := un_set (listed := listed) (k := k) hksz hkn ops.size
        rw [if_pos hkm] at this
        omega
      have hall' : ∀ j, j < s → ∀ x y, ψ j x → StA Rs Rb mv j x y → ψ j y := fun j hj => by
        by_cases hjd : j = d
        · subst hjd; exact hst
        · obtain ⟨x, hx⟩ : ∃ x, ops[j]? = some x := ⟨ops[j], by simp [show j < ops.size by omega]⟩
          exact (hob j x hj hjd hx).1
      have run : ∀ (val' : Nat → Option Value) (K : Value → World → Prop), (∀ t, t ∈ o.looksAt ops → a.tmps.getD t undef = lk ops.toList val' g k t) → opP P (evF (lk ops.toList val' g k)) o w1 K X noD →
          (∀ v w2, K v w2 → wpAnyIn (WF ρ) 0 P .any ops Q' fuel (listed.setIfInBounds k true) (a.put o.dst v) w2) → o.wpIn (WF ρ) 0 P a w1 (wpAnyIn (WF ρ) 0 P .any ops Q' fuel (listed.setIfInBounds k true)) Q' := fun val' K hslot hop hnext => by
        obtain ⟨Ek, hEk⟩ := lk_env ops.toList val' g hg0 k
        rw [← hEk, ← ev_evF] at hop
        have hex2 : execOp a.eval o = execOp (ev Ek) o := execOp_congr o (C.plain o homem).2 fun x hx => by
          cases x with
          | tmp t =>
            have ht : t ∈ o.looksAt ops := by
              simp only [Oper.looksAt, List.mem_append, List.mem_filterMap]
              exact .inl ⟨.tmp t, Array.mem_toList_iff.2 hx, rfl⟩
            show a.tmps.getD t undef = get Ek t
            rw [hEk]; exact hslot t ht
          | _ => rfl
        have hup := upon_of_do (ρ := ρ) (o := o) (a := a) (next := wpAnyIn (WF ρ) 0 P .any ops Q' fuel (listed.setIfInBounds k true)) (Q := Q') (do_of_opP hop) hnext (fun ch w2 hx => hX ch w1 a listed val ψ I w2 hx) (fun d w2 hd => hd.elim)
        rw [← hex2] at hup
        refine ⟨fun _ _ => trivial, ?_⟩
        rw [semAt_wf (.inr (C.plain o homem).1)]
        exact hup
      unfold wpOpIn
      simp only [ho]
      by_cases hkd : k = d
      · subst hkd
        obtain ⟨hnd1, hnd2⟩ := hnd hks hkn
        obtain ⟨hg, hop⟩ := hnd1 o ho
        obtain ⟨hslot, _, _⟩ := draw_step C hpre hdst hgs I hk hks ho
        rw [if_pos (by simp [Region.wanted, hg])]
        refine (run val _ hslot (hop w1 (I.at_ hkn)) fun v w2 ⟨hr, hp⟩ => ?_)
        have I' : Inv ops Rs Rb mv w0 n s (fun j => if j = k then some v else val j) (fun j => if j = k then φ v else ψ j) g ds listed a w1 :=
          ⟨I.size, I.down, I.asize, fun t => by
            rw [I.vals t, look_congr (val' := fun j => if j = k then some v else val j)]
            intro j hj
            show val j = if j = k then some v else val j
            rw [if_neg (fun e => by rw [e, hkn] at hj; cases hj)], I.defers, I.rel, I.relm, fun j hj hlj => by
            show (if j = k then φ v else ψ j) w1
            rw [if_neg (fun e => by rw [e, hkn] at hlj; cases hlj)]
            exact I.facts j hj hlj, I.lo⟩
        obtain ⟨_, hinv, _⟩ := draw_step C hpre hdst hgs I' hk hks ho
        have I2 := hinv (some v) w2 (by simp) hr (by simpa using hp) (fun j hj hlj hx => by
          have hjk : j ≠ k := fun e => by rw [e, hkn] at hlj; cases hlj
          simp only [if_neg hjk] at hx ⊢; exact hall' j hj _ _ hx (DnA_St hpre hjk hr))
        refine ih _ _ _ _ _ I2 (fun j oj hj hjk hoj => ?_) (fun x y hx hxy => by simp only [if_true] at hx ⊢; exact hφ v x y hx hxy) (fun _ hl => ?_) (fun _ => hnd2 v) hfuel
        · have := hob j oj hj hjk hoj
          simp only [if_neg hjk]
          rw [← lk_congr (val := val) j fun i hi => by rw [if_neg (by omega)]]
          exact this
        · rw [getD_set hksz, if_pos rfl] at hl; cases hl
      · obtain ⟨hslot, hinv, hyield⟩ := draw_step C hpre hdst hgs I hk hks ho
        obtain ⟨_, hobk⟩ := hob k o hks hkd ho
        have next : ∀ a' w2, Inv ops Rs Rb mv w0 n s val ψ g ds (listed.setIfInBounds k true) a' w2 → wpAnyIn (WF ρ) 0 P .any ops Q' fuel (listed.setIfInBounds k true) a' w2 := fun a' w2 I2 =>
          ih _ _ _ _ _ I2 hob hst (fun hds hl => hnd hds (by rw [getD_set hksz, if_neg (fun e => hkd e.symm)] at hl; exact hl))
            (fun hl => hfin fun hds => by have := hl hds; rw [getD_set hksz, if_neg (fun e => hkd e.symm)] at this; exact this) hfuel
        cases hval : val k with
        | none =>
          rw [hval] at hobk
          obtain ⟨⟨j, want, hg, hne⟩, hp⟩ := hobk
          rw [if_neg (by simp only [Region.wanted, hg]; intro h; exact hne ((hyield j want hg).1 h))]
          exact ⟨fun _ _ => trivial, next _ _ (hinv none w1 (by rw [hval]) (DnA_refl hpre _) (hp w1) fun j hj _ h => h)⟩
        | some c =>
          rw [hval] at hobk
          obtain ⟨hgd, hop⟩ := hobk
          rw [if_pos (by
            cases hg : o.guard with
            | none => simp [Region.wanted, hg]
            | some jw => obtain ⟨j, want⟩ := jw; simp only [Region.wanted, hg]; exact (hyield j want hg).2 (hgd j want hg))]
          refine (run val _ hslot (hop w1 (I.at_ hkn)) fun v w2 hk => ?_)
          obtain ⟨rfl, hr, hp⟩ := hk
          exact next _ _ (hinv (some v) w2 (by rw [hval]) hr hp fun j hj hlj h => hall' j hj _ _ h (DnA_St hpre (fun e => by rw [e, hkn] at hlj; cases hlj) hr))
end draw
theorem lk_hit {ops : Array Oper} {s : Nat} {TS : List (List Nat)} (O : ThrOk ops s TS) {val : Nat → Option Value} {g : Nat → Value} {j : Nat} {t : Tmp} (hd : dstOf ops j = some t) : ∀ k, j < k → k ≤ s → lk ops.toList val g k t = (val j).getD undef
  | k + 1, h, hk => by
    simp only [lk, upd]
    have e : (ops.toList[k]?).bind (·.dst) = dstOf ops k := by simp [dstOf]
    rw [e]
    by_cases hjk : j = k
    · subst hjk; rw [if_pos hd]
    · rw [if_neg (fun h' => hjk (O.uniq j k t (by omega) (by omega) hd h'))]
      exact lk_hit O hd k (by omega) (by omega)
theorem lk_miss {ops : Array Oper} {val : Nat → Option Value} {g : Nat → Value} {t : Tmp} : ∀ k, (∀ j, j < k → dstOf ops j ≠ some t) → lk ops.toList val g k t = g t
  | 0, _ => rfl
  | k + 1, h => by
    simp only [lk, upd]
    have e : (ops.toList[k]?).bind (·.dst) = dstOf ops k := by simp [dstOf]
    rw [e, if_neg (h k (by omega))]
    exact lk_miss k fun j hj => h j (by omega)
section threads
variable {P : Program} {ops : Array Oper} {R : World → World → Prop} {S : Nat → World → World → Prop} {w0 : World} {X : List PanicEntry → World → Prop}
def LateAt (ops : Array Oper) (val : Nat → Option Value) (E : Env) (k : Nat) : Prop := ∃ o x v, ops[k]? = some o ∧ pureOf o.op = some x ∧ pureV o.op (get E x) = some v ∧ val k = some v
structure TSt (P : Program) (ops : Array Oper) (R : World → World → Prop) (S : Nat → World → World → Prop) (t : Nat) (w0 : World) (X : List PanicEntry → World → Prop) (g1 : Nat → Value) (val : Nat → Option Value) (listed : Array Bool) (Φ : List Value → World → Prop) (T dn rest : List Nat) (E : Env) (Θ : World → Prop) (w1 : World) : Prop where
  split : T = dn ++ rest
  done : ∀ k, k ∈ dn → listed.getD k false = true ∨ LateAt ops val E k
  open_ : ∀ k, k ∈ rest → listed.getD k false = false
  hit : ∀ j, j ∈ dn → hasDst ops j = true → get E (slotOf ops j) = (val j).getD undef
  miss : ∀ t, (∀ j, j ∈ dn → hasDst ops j = true → slotOf ops j ≠ t) → get E t = g1 t
  stable : ∀ a b, Θ a → S t a b → Θ b
  now : Θ w1
  chain : thrChain P ops R S t w0 X (fun vs Θ => ∀ w1, R w0 w1 → Θ w1 → Φ vs w1) rest E Θ ((dn.filter (hasDst ops)).map fun k => (val k).getD undef)
section push
variable {P : Program} {ops : Array Oper} {R : World → World → Prop} {S : Nat → World → World → Prop} {w0 w1 w2 : World} {X : List PanicEntry → World → Prop} {s : Nat} {TS : List (List Nat)} {i : Nat} {g1 : Nat → Value} {val : Nat → Option Value} {listed listed' : Array Bool} {Φ : List Value → World → Prop} {T dn r p : List Nat} {E : Env} {Θ : World → Prop}
theorem late_slot (O : ThrOk ops s TS) {k k' x : Nat} {o : Oper} (hT : k' ∈ TS.flatten) (hk : k ∈ TS.flatten) (ho : ops[k]? = some o) (hop : pureOf o.op = some x) (hlt : k < k' ∨ k = k') (hk' : hasDst ops k' = true) : slotOf ops k' ≠ x := by
  intro e
  have hl : x ∈ o.looksAt ops := by
    simp only [Oper.looksAt, List.mem_append, List.mem_filterMap]
    refine .inl ⟨.tmp x, ?_, rfl⟩
    unfold pureOf at hop
    split at hop <;> first | (cases hop; rename_i he; rw [he]; simp [Op.operands]) | cases hop
  have hd := O.dst k' hT hk'
  rw [e] at hd
  have := (O.looks k k' x o (O.lt k hk) (O.lt k' hT) hd ho hl).1
  omega
theorem get_thPut {k t : Nat} {v : Value} (h : hasDst ops k = true → slotOf ops k ≠ t) : get (putO E (dstOf ops k) (some v)) t = get E t := by
  cases hd : hasDst ops k with
  | true =>
    rw [dst_of hd]
    show get ((slotOf ops k, some v) :: E) t = _
    rw [get_cons, if_neg (fun e => h hd e.symm)]
  | false =>
    have : dstOf ops k = none := by simpa [hasDst, dstOf] using hd
    rw [this]; rfl
theorem get_thPut_hit {k : Nat} {v : Value} (hd : hasDst ops k = true) : get (putO E (dstOf ops k) (some v)) (slotOf ops k) = v := by
  rw [dst_of hd]
  show get ((slotOf ops k, some v) :: E) _ = _
  rw [get_cons, if_pos rfl]; rfl
theorem LateAt.cons (O : ThrOk ops s TS) {k k' : Nat} {v : Value} (hT : k' ∈ TS.flatten) (hk : k ∈ TS.flatten) (hlt : k < k') (h : LateAt ops val E k) : LateAt ops (fun j => if j = k' then some v else val j) (putO E (dstOf ops k') (some v)) k := by
  obtain ⟨o, x, u, h1, h2, h3, h5⟩ := h
  refine ⟨o, x, u, h1, h2, ?_, ?_⟩
  · rw [get_thPut (fun hh e => late_slot O hT hk h1 h2 (.inl hlt) hh e)]; exact h3
  · show (if k = k' then some v else val k) = some u
    rw [if_neg (by omega)]; exact h5
theorem TSt.push (O : ThrOk ops s TS) (hTT : T ∈ TS) {k : Nat} {v : Value} {φ : Value → World → Prop} (St : TSt P ops R S i w0 X g1 val listed Φ T dn (k :: r) E Θ w1) (hl : ∀ j, j ≠ k → listed'.getD j false = listed.getD j false)
    (hk : listed'.getD k false = true ∨ LateAt ops (fun j => if j = k then some v else val j) (putO E (dstOf ops k) (some v)) k) (hφs : ∀ v a b, φ v a → S i a b → φ v b) (hp : φ v w2)
    (hch : tif (hasDst ops k) (thrChain P ops R S i w0 X (fun vs Θ => ∀ w1, R w0 w1 → Θ w1 → Φ vs w1) r ((slotOf ops k, some v) :: E) (φ v) (((dn.filter (hasDst ops)).map fun k => (val k).getD undef) ++ [v])) (thrChain P ops R S i w0 X (fun vs Θ => ∀ w1, R w0 w1 → Θ w1 → Φ vs w1) r E (φ v) ((dn.filter (hasDst ops)).map fun k => (val k).getD undef))) :
    TSt P ops R S i w0 X g1 (fun j => if j = k then some v else val j) listed' Φ T (dn ++ [k]) r (putO E (dstOf ops k) (some v)) (φ v) w2 := by
  have hTj : ∀ j, j ∈ T → j ∈ TS.flatten := fun j hj => List.mem_flatten.2 ⟨T, hTT, hj⟩
  have hdT : ∀ j, j ∈ dn → j ∈ T := fun j hj => by rw [St.split]; simp [hj]
  have hkT : k ∈ T := by rw [St.split]; simp
  have ha := O.asc T hTT
  rw [St.split, List.pairwise_append] at ha
  have hlt : ∀ j, j ∈ dn → j < k := fun j hj => ha.2.2 j hj k (by simp)
  have hgt : ∀ j, j ∈ r → k < j := fun j hj => (List.pairwise_cons.1 ha.2.1).1 j hj
  refine ⟨by rw [St.split]; simp, fun j hj => ?_, fun j hj => ?_, fun j hj hjd => ?_, fun t ht => ?_, hφs v, hp, ?_⟩
  · rcases List.mem_append.1 hj with h | h
    · have := hlt j h
      rcases St.done j h with h' | h'
      · exact .inl (by rw [hl j (by omega)]; exact h')
      · exact .inr (h'.cons O (hTj k hkT) (hTj j (hdT j h)) this)
    · simp only [List.mem_singleton] at h; subst h; exact hk
  · have := hgt j hj
    rw [hl j (by omega)]
    exact St.open_ j (by simp [hj])
  · rcases List.mem_append.1 hj with h | h
    · have := hlt j h
      rw [get_thPut (fun hh e => by
        have := O.uniq j k (slotOf ops k) (O.lt j (hTj j (hdT j h))) (O.lt k (hTj k hkT)) (by rw [O.dst j (hTj j (hdT j h)) hjd, e]) (O.dst k (hTj k hkT) hh)
        omega), St.hit j h hjd]
      show _ = (if j = k then some v else val j).getD undef
      rw [if_neg (by omega)]
    · simp only [List.mem_singleton] at h
      subst h
      rw [get_thPut_hit hjd]
      show _ = (if j = j then some v else val j).getD undef
      rw [if_pos rfl]; rfl
  · rw [get_thPut (fun hh e => ht k (by simp) hh e)]
    exact St.miss t fun j hj => ht j (by simp [hj])
  · have e0 : ((dn.filter (hasDst ops)).map fun k' => ((fun j => if j = k then some v else val j) k').getD undef) = (dn.filter (hasDst ops)).map fun k => (val k).getD undef := by
      refine List.map_congr_left fun j hj => ?_
      have := hlt j (List.mem_filter.1 hj).1
      show (if j = k then some v else val j).getD undef = _
      rw [if_neg (by omega)]
    rw [List.filter_append, List.map_append, e0]
    cases hd : hasDst ops k with
    | true =>
      rw [hd] at hch
      rw [dst_of hd, List.filter_cons_of_pos (by simpa using hd)]
      have e1 : (([k] : List Nat).map fun k' => ((fun j => if j = k then some v else val j) k').getD undef) = [v] := by
        show [(if k = k then some v else val k).getD undef] = [v]
        rw [if_pos rfl]; rfl
      rw [List.filter_nil, e1]
      exact hch
    | false =>
      rw [hd] at hch
      have : dstOf ops k = none := by simpa [hasDst, dstOf] using hd
      rw [this, List.filter_cons_of_neg (by simpa using hd), List.filter_nil, List.map_nil, List.append_nil]
      exact hch
theorem LateAt.other {k k' : Nat} {v : Value} (hne : k ≠ k') (h : LateAt ops val E k) : LateAt ops (fun j => if j = k' then some v else val j) E k := by
  obtain ⟨o, x, u, h1, h2, h3, h5⟩ := h
  refine ⟨o, x, u, h1, h2, h3, ?_⟩
  show (if k = k' then some v else val k) = some u
  rw [if_neg hne]; exact h5
theorem TSt.other {rest : List Nat} {k : Nat} {v : Value} (St : TSt P ops R S i w0 X g1 val listed Φ T dn rest E Θ w1) (hk : k ∉ T) (hl : ∀ j, j ≠ k → listed'.getD j false = listed.getD j false) (hS : S i w1 w2) :
    TSt P ops R S i w0 X g1 (fun j => if j = k then some v else val j) listed' Φ T dn rest E Θ w2 := by
  have hne : ∀ j, j ∈ T → j ≠ k := fun j hj e => hk (e ▸ hj)
  have hd' : ∀ j, j ∈ dn → j ∈ T := fun j hj => by rw [St.split]; simp [hj]
  refine ⟨St.split, fun j hj => ?_, fun j hj => ?_, fun j hj hjd => ?_, St.miss, St.stable, St.stable _ _ St.now hS, ?_⟩
  · rcases St.done j hj with h | h
    · exact .inl (by rw [hl j (hne j (hd' j hj))]; exact h)
    · exact .inr (h.other (hne j (hd' j hj)))
  · rw [hl j (hne j (by rw [St.split]; simp [hj]))]; exact St.open_ j hj
  · show _ = (if j = k then some v else val j).getD undef
    rw [if_neg (hne j (hd' j hj))]; exact St.hit j hj hjd
  · have e : ((dn.filter (hasDst ops)).map fun k' => ((fun j => if j = k then some v else val j) k').getD undef) = (dn.filter (hasDst ops)).map fun k => (val k).getD undef := List.map_congr_left fun j hj => by
      show (if j = k then some v else val j).getD undef = _
      rw [if_neg (hne j (hd' j (List.mem_filter.1 hj).1))]
    rw [e]
    exact St.chain
theorem ext_of_opP {o : Oper} {x : Tmp} {K : Value → World → Prop} (hop : pureOf o.op = some x) (h : opP P (ev E) o w1 K X noD) : ∃ v, pureV o.op (get E x) = some v ∧ K v w1 := by
  unfold pureOf at hop
  split at hop
  · rename_i y ix he
    cases hop
    simp only [opP, he] at h
    have h : DoV P (Instr.extract (get E x) ix) w1 K X := h
    unfold DoV Do vS Instr.extract at h
    rw [he]
    cases hg : get E x with
    | tuple vs =>
      rw [hg] at h
      simp only at h
      cases hv : vs[ix]? with
      | some v => rw [hv] at h; exact ⟨v, hv, by simpa using h⟩
      | none => rw [hv] at h; simp [stuck] at h
    | _ => rw [hg] at h; simp [stuck] at h
  · rename_i y he
    cases hop
    simp only [opP, he] at h
    exact ⟨_, by rw [he]; rfl, h⟩
  · rename_i y he
    cases hop
    simp only [opP, he] at h
    exact ⟨_, by rw [he]; rfl, h⟩
  · cases hop
theorem opP_of_ext {o : Oper} {x : Tmp} {K : Value → World → Prop} {v : Value} (hop : pureOf o.op = some x) (hv : pureV o.op (get E x) = some v) (hk : K v w1) : opP P (ev E) o w1 K X noD := by
  unfold pureOf at hop
  split at hop
  · rename_i y ix he
    cases hop
    rw [he] at hv
    simp only [opP, he]
    show DoV P (Instr.extract (get E x) ix) w1 K X
    unfold DoV Do vS Instr.extract
    cases hg : get E x with
    | tuple vs =>
      rw [hg] at hv
      have hv : vs[ix]? = some v := hv
      simp only [hv]
      simpa using hk
    | _ => rw [hg] at hv; cases hv
  · rename_i y he
    cases hop
    rw [he] at hv
    simp only [opP, he]
    cases hv; exact hk
  · rename_i y he
    cases hop
    rw [he] at hv
    simp only [opP, he]
    cases hv; exact hk
  · cases hop
theorem TSt.ahead (O : ThrOk ops s TS) (hTT : T ∈ TS) (hR : R w0 w1) : ∀ (p dn r : List Nat) (val : Nat → Option Value) (E : Env) (Θ : World → Prop), TSt P ops R S i w0 X g1 val listed Φ T dn (p ++ r) E Θ w1 → (∀ j, j ∈ p → isExt ops j = true) →
    ∃ val' E' Θ', TSt P ops R S i w0 X g1 val' listed Φ T (dn ++ p) r E' Θ' w1 ∧ ∀ j, j ∉ p → val' j = val j
  | [], dn, r, val, E, Θ, St, _ => ⟨val, E, Θ, by rw [List.append_nil]; exact St, fun _ _ => rfl⟩
  | k :: p, dn, r, val, E, Θ, St, hx => by
    obtain ⟨o, x, ho, hop⟩ := isExt_iff (hx k (List.mem_cons_self ..))
    have hkT : k ∈ T := by rw [St.split]; simp
    have hkf : k ∈ TS.flatten := List.mem_flatten.2 ⟨T, hTT, hkT⟩
    have hch := St.chain
    simp only [List.cons_append, thrChain, ho] at hch
    obtain ⟨φ, hφs, hφo, hφr⟩ := hch
    obtain ⟨v, hv, ⟨_, _⟩, hp⟩ := ext_of_opP hop (hφo w1 hR St.now)
    have St2 := TSt.push (listed' := listed) (w2 := w1) (v := v) O hTT St (fun _ _ => rfl) (.inr ⟨o, x, v, ho, hop, by rw [get_thPut (fun hh e => late_slot O hkf hkf ho hop (.inr rfl) hh e)]; exact hv, by show (if k = k then some v else val k) = some v; rw [if_pos rfl]⟩) hφs hp (hφr v)
    obtain ⟨val', E', Θ', St3, hval⟩ := TSt.ahead O hTT hR p (dn ++ [k]) r _ _ _ St2 (fun j hj => hx j (List.mem_cons_of_mem _ hj))
    refine ⟨val', E', Θ', by rw [List.append_assoc] at St3; exact St3, fun j hj => ?_⟩
    rw [hval j (fun h => hj (List.mem_cons_of_mem _ h))]
    show (if j = k then some v else val j) = val j
    rw [if_neg (fun e => hj (by rw [e]; exact List.mem_cons_self ..))]
end push
theorem lagOf_mem {ops : Array Oper} {s : Nat} {TS : List (List Nat)} {j : Nat} (h : j ∈ lagOf ops s TS) : (j ∈ TS.flatten ∧ isExt ops j = true) ∧ ∀ k o, s ≤ k → ops[k]? = some o → o.guard = none := by
  unfold lagOf at h
  cases hc : (ops.toList.drop s).all fun o => o.guard.isNone with
  | false => rw [hc] at h; cases h
  | true =>
    rw [hc] at h
    refine ⟨by simpa using List.mem_filter.1 h, fun k o hk ho => ?_⟩
    have hm : o ∈ ops.toList.drop s := by
      refine List.mem_of_getElem? (i := k - s) ?_
      rw [List.getElem?_drop, show s + (k - s) = k by omega]
      simpa using ho
    simpa using List.all_eq_true.1 hc o hm
theorem lagOf_lt {ops : Array Oper} {s : Nat} {TS : List (List Nat)} (O : ThrOk ops s TS) : ∀ j, j ∈ lagOf ops s TS → j < s := fun j hj => O.lt j (lagOf_mem hj).1.1
def LagEq (LS : List Nat) (a' a : Act) : Prop := a'.tmps.size = a.tmps.size ∧ a'.defers = a.defers ∧ ∀ t, t ∉ LS → a'.tmps.getD t undef = a.tmps.getD t undef
def QL (LS : List Nat) (Q' : Exit → Act → World → Prop) : Exit → Act → World → Prop := fun e a w => Q' e a w ∧ ∀ ch, e = .panic ch → ∀ a', LagEq LS a' a → Q' e a' w
theorem act_ext {a b : Act} (hs : a.tmps.size = b.tmps.size) (hd : a.defers = b.defers) (h : ∀ t, a.tmps.getD t undef = b.tmps.getD t undef) : a = b := by
  obtain ⟨ta, da⟩ := a
  obtain ⟨tb, db⟩ := b
  simp only at hs hd h
  subst hd
  congr 1
  refine Array.ext hs fun i h1 h2 => ?_
  have := h i
  simpa [Array.getD_eq_getD_getElem?, h1, h2] using this
theorem act_put_get {a : Act} {d : Option Tmp} {v : Value} (hd : ∀ x, d = some x → x < a.tmps.size) (t : Nat) : (a.put d v).tmps.getD t undef = if d = some t then v else a.tmps.getD t undef := by
  cases d with
  | none => simp [Act.put]
  | some x =>
    have hx := hd x rfl
    simp only [Act.put, Option.some.injEq, Array.getD_eq_getD_getElem?, Array.getElem?_setIfInBounds]
    by_cases h : x = t
    · subst h; simp [hx]
    · rw [if_neg h, if_neg h]
theorem act_put_size {a : Act} {d : Option Tmp} {v : Value} : (a.put d v).tmps.size = a.tmps.size := by cases d <;> simp [Act.put]
theorem act_put_defers {a : Act} {d : Option Tmp} {v : Value} : (a.put d v).defers = a.defers := by cases d <;> rfl
theorem exec_pure {P : Program} {w : World} {f : Operand → Value} {o : Oper} {x : Tmp} {v : Value} (hop : pureOf o.op = some x) (hv : pureV o.op (f (.tmp x)) = some v) : (execOp f o).run P w = .ok (.value v) w := by
  obtain ⟨dst, op, type, pos, after, guard⟩ := o
  simp only at hop hv
  unfold pureOf at hop
  split at hop
  · rename_i y ix
    cases hop
    cases hg : f (.tmp x) with
    | tuple vs =>
      rw [hg] at hv
      have hv : vs[ix]? = some v := hv
      simp [execOp, hg, Instr.extract, hv]
    | _ => rw [hg] at hv; cases hv
  · cases hop
    cases hv
    simp [execOp]
  · cases hop
    cases hv
    simp [execOp]
  · cases hop
theorem wpIn_lag {ρ : Option Nat} {P : Program} {o : Oper} {a b : Act} {w : World} {K K' : Act → World → Prop} {Q Q' : Exit → Act → World → Prop} (hpl : isDefer o.op = false) (hex : execOp a.eval o = execOp b.eval o)
    (hk : ∀ dd v w', K ({ b with defers := dd }.put o.dst v) w' → K' ({ a with defers := dd }.put o.dst v) w') (hd : a.defers = b.defers) (hx : ∀ ch w', Q (.panic ch) b w' → Q' (.panic ch) a w') (hl : LetsOut Q → LetsOut Q')
    (h : o.wpIn (WF ρ) 0 P b w K Q) : o.wpIn (WF ρ) 0 P a w K' Q' := by
  refine ⟨fun _ _ => trivial, ?_⟩
  have h2 := h.2
  rw [semAt_wf (.inr hpl)] at h2 ⊢
  rw [hex]
  have hkv : ∀ v w', K (b.put o.dst v) w' → K' (a.put o.dst v) w' := fun v w' hh => by
    have := hk b.defers v w' hh
    rwa [show ({ a with defers := b.defers } : Act) = a by rw [← hd]] at this
  generalize (execOp b.eval o).run P w = r at h2 ⊢
  cases r with
  | ok x w' =>
    cases x <;> simp only [Oper.uponIn] at h2 ⊢
    case value v => exact hkv _ _ h2
    case skip => exact hkv _ _ h2
    case defer d => rw [hd]; exact hk _ _ _ h2
    case enter f args => exact ⟨h2.1, CallsIn.mono h2.2 fun e w'' he => by cases e <;> first | exact hkv _ _ he | exact hx _ _ he | exact hl he⟩
    case row r args => exact ⟨h2.1, RowsIn.mono h2.2 fun v w'' he => hkv _ _ he⟩
    case round l f tm as bd => exact ⟨h2.1, RoundIn.mono h2.2 fun e w'' he => by cases e <;> first | exact hkv _ _ he | exact hx _ _ he | exact hl he⟩
  | halt x w' => cases x <;> simp only [Oper.uponIn] at h2 ⊢ <;> first | exact hx _ _ h2 | exact h2
theorem looks_pure {o : Oper} {x : Tmp} {ops : Array Oper} (hop : pureOf o.op = some x) : x ∈ o.looksAt ops := by
  simp only [Oper.looksAt, List.mem_append, List.mem_filterMap]
  refine .inl ⟨.tmp x, ?_, rfl⟩
  unfold pureOf at hop
  split at hop <;> first | (cases hop; rename_i he; rw [he]; simp [Op.operands]) | cases hop
theorem exec_same {ops : Array Oper} {o : Oper} {a b : Act} (hpl : ∀ cs b, o.op ≠ .select cs b) (h : ∀ t, t ∈ o.looksAt ops → a.tmps.getD t undef = b.tmps.getD t undef) : execOp a.eval o = execOp b.eval o :=
  execOp_congr o hpl fun x hx => by
    cases x with
    | tmp t =>
      have ht : t ∈ o.looksAt ops := by
        simp only [Oper.looksAt, List.mem_append, List.mem_filterMap]
        exact .inl ⟨.tmp t, Array.mem_toList_iff.2 hx, rfl⟩
      exact h t ht
    | _ => rfl
theorem tail_lag {ρ : Option Nat} {P : Program} {ops : Array Oper} {s n : Nat} {L : List Nat} {TS : List (List Nat)} {Q' : Exit → Act → World → Prop} (C : Checks ops s L) (O : ThrOk ops s TS) (hL : ∀ j, j ∈ L → (j ∈ TS.flatten ∧ isExt ops j = true) ∧ ∀ k o, s ≤ k → ops[k]? = some o → o.guard = none)
    (hdst : ∀ (o : Oper) d, o ∈ ops → o.dst = some d → d < n) : ∀ (fuel m : Nat) (listed : Array Bool) (a b : Act) (w1 : World), s ≤ m → m ≤ ops.size → listed.size = ops.size → (∀ i, i < ops.size → listed.getD i false = true → i < m) → (∀ i, i < m → listed.getD i false = true ∨ i ∈ L) →
      (∀ i, i < ops.size → listed.getD i false = true → ∀ j, j ∈ pre ops i → listed.getD j false = true) → a.tmps.size = n → b.tmps.size = n → a.defers = b.defers →
      (∀ t, (∀ j, j ∈ L → listed.getD j false = false → slotOf ops j ≠ t) → a.tmps.getD t undef = b.tmps.getD t undef) →
      (∀ j, j ∈ L → listed.getD j false = false → ∃ o x v, ops[j]? = some o ∧ pureOf o.op = some x ∧ pureV o.op (b.tmps.getD x undef) = some v ∧ b.tmps.getD (slotOf ops j) undef = v) →
      fuel = un listed ops.size → wpListIn (WF ρ) 0 P ops (QL (L.map (slotOf ops)) Q') (ops.toList.drop m) b w1 → wpAnyIn (WF ρ) 0 P .any ops Q' fuel listed a w1 := by
  have hget : ∀ k : Nat, ops.toList[k]? = ops[k]? := fun k => by simp
  intro fuel
  induction fuel with
  | zero =>
    intro m listed a b w1 hs hm hsz hlt hle hdown hna hnb hdf hag hpu hf hw
    have hall := un_zero (listed := listed) (m := ops.size) hf.symm
    have hmm : m = ops.size := by
      rcases Nat.lt_or_ge m ops.size with h | h
      · have := hlt m h (hall m h); omega
      · omega
    subst hmm
    rw [List.drop_of_length_le (by simp)] at hw
    have hab : a = b := act_ext (by omega) hdf fun t => hag t fun j hj hn => by
      have := O.lt j (hL j hj).1.1
      rw [hall j (by have := C.le; omega)] at hn; cases hn
    refine ⟨?_, by rw [hab]; exact hw.1⟩
    refine List.eq_nil_iff_forall_not_mem.2 fun i hi => ?_
    obtain ⟨h1, h2, _⟩ := (mem_ready hsz).1 hi
    rw [hall i h1] at h2; cases h2
  | succ fuel ih =>
    intro m listed a b w1 hs hm hsz hlt hle hdown hna hnb hdf hag hpu hf hw
    have hex : ∃ k, k < ops.size ∧ listed.getD k false = false := by
      refine Classical.byContradiction fun hn => ?_
      rw [un_full fun i hi => by
        cases hh : listed.getD i false with
        | true => rfl
        | false => exact absurd ⟨i, hi, hh⟩ hn] at hf
      omega
    have hmin : ∃ k, k < ops.size ∧ listed.getD k false = false ∧ ∀ j, j < k → listed.getD j false = true := by
      obtain ⟨k, hk⟩ := hex
      revert hk
      induction k using Nat.strongRecOn with
      | _ k ihk =>
        intro hk
        by_cases hj : ∃ j, j < k ∧ listed.getD j false = false
        · obtain ⟨j, hj1, hj2⟩ := hj
          exact ihk j hj1 ⟨by omega, hj2⟩
        · refine ⟨k, hk.1, hk.2, fun j hjk => ?_⟩
          cases hh : listed.getD j false with
          | true => rfl
          | false => exact absurd ⟨j, hjk, hh⟩ hj
    obtain ⟨k0, hk0, hk0n, hk0m⟩ := hmin
    have hr0 : k0 ∈ Region.ready .any ops listed := (mem_ready hsz).2 ⟨hk0, hk0n, fun j hj => hk0m j (C.lt k0 j hk0 hj)⟩
    refine ⟨fun hn => (by rw [hn] at hr0; simp at hr0), fun k hk => ?_⟩
    obtain ⟨hkm, hkn, hkp⟩ := (mem_ready hsz).1 hk
    obtain ⟨o, ho⟩ : ∃ o, ops[k]? = some o := ⟨ops[k], by simp [hkm]⟩
    have homem : o ∈ ops := Array.mem_of_getElem? ho
    have hfuel : fuel = un (listed.setIfInBounds k true) ops.size := by
      have := un_set (listed := listed) (k := k) (by omega) hkn ops.size
      rw [if_pos hkm] at this
      omega
    have hset : ∀ i, (listed.setIfInBounds k true).getD i false = if i = k then true else listed.getD i false := fun i => getD_set (by omega)
    have hclo : ∀ j, j ∈ clo ops 12 k → listed.getD j false = true := clo_listed C.lt hdown 12 k hkm hkp
    have hdown' : ∀ i, i < ops.size → (listed.setIfInBounds k true).getD i false = true → ∀ j, j ∈ pre ops i → (listed.setIfInBounds k true).getD j false = true := fun i hi hli j hj => by
      rw [hset] at hli ⊢
      by_cases hjk : j = k
      · rw [if_pos hjk]
      · rw [if_neg hjk]
        by_cases hik : i = k
        · subst hik; exact hkp j hj
        · rw [if_neg hik] at hli; exact hdown i hi hli j hj
    have hslot : ∀ j, j ∈ L → dstOf ops j = some (slotOf ops j) := fun j hj => O.dst j (hL j hj).1.1 (isExt_dst (hL j hj).1.2)
    unfold wpOpIn
    simp only [ho]
    by_cases hkL : k ∈ L
    · obtain ⟨o', x, v, ho', hop, hpv, hbv⟩ := hpu k hkL hkn
      rw [ho] at ho'; cases ho'
      have hks := O.lt k (hL k hkL).1.1
      have hg := O.guard k o (hL k hkL).1.1 ho
      have hod : o.dst = some (slotOf ops k) := by have := hslot k hkL; simpa [dstOf, ho] using this
      rw [if_pos (by simp [Region.wanted, hg])]
      have hax : a.tmps.getD x undef = b.tmps.getD x undef := hag x fun j hj hjn e => by
        have hjs := O.lt j (hL j hj).1.1
        have hjk := (O.looks k j x o hks hjs (by rw [hslot j hj, e]) ho (looks_pure hop)).1
        rcases C.dep k j hkm hjk with ⟨_, hc⟩ | hc
        · obtain ⟨oj, hoj⟩ : ∃ y, ops[j]? = some y := ⟨ops[j], by simp [show j < ops.size by omega]⟩
          have := hc oj o hoj ho
          exact (clash_dst (d := x) this (by have := hslot j hj; rw [e] at this; simpa [dstOf, hoj] using this)).1 (looks_pure hop)
        · rw [hclo j hc] at hjn; cases hjn
      refine ⟨fun _ _ => trivial, ?_⟩
      rw [semAt_wf (.inr (C.plain o homem).1), exec_pure hop (show pureV o.op (a.eval (.tmp x)) = some v by show pureV o.op (a.tmps.getD x undef) = some v; rw [hax]; exact hpv), Oper.uponIn_value]
      have hda : ∀ y, o.dst = some y → y < a.tmps.size := fun y hy => by rw [hna]; exact hdst o y homem hy
      refine ih m _ _ b w1 hs hm (by simpa using hsz) (fun i hi hli => ?_) (fun i hi => ?_) hdown' (by rw [act_put_size]; exact hna) hnb (by rw [act_put_defers]; exact hdf) (fun t ht => ?_) (fun j hj hjn => ?_) hfuel hw
      · rw [hset] at hli
        by_cases hik : i = k
        · omega
        · rw [if_neg hik] at hli; exact hlt i hi hli
      · rw [hset]
        by_cases hik : i = k
        · left; rw [if_pos hik]
        · rw [if_neg hik]; exact hle i hi
      · rw [act_put_get hda, hod]
        by_cases htk : slotOf ops k = t
        · rw [if_pos (by rw [htk]), ← htk]; exact hbv.symm
        · rw [if_neg (by simpa using htk)]
          refine hag t fun j hj hjn => ?_
          by_cases hjk : j = k
          · subst hjk; exact htk
          · exact ht j hj (by rw [hset, if_neg hjk]; exact hjn)
      · rw [hset] at hjn
        by_cases hjk : j = k
        · rw [if_pos hjk] at hjn; cases hjn
        · rw [if_neg hjk] at hjn; exact hpu j hj hjn
    · have hmk : m ≤ k := by
        rcases Nat.lt_or_ge k m with h | h
        · rcases hle k h with hh | hh
          · rw [hh] at hkn; cases hkn
          · exact absurd hh hkL
        · exact h
      have hkeq : k = m := by
        rcases Nat.lt_or_ge m k with h | h
        · exfalso
          rcases C.dep k m hkm h with ⟨hd, _⟩ | hd
          · rcases hd with hd | hd
            · omega
            · have := C.lag m hd; omega
          · have hml := hclo m hd
            have := hlt m (by omega) hml
            omega
        · omega
      subst hkeq
      have hdrop : ops.toList.drop k = o :: ops.toList.drop (k + 1) := by
        have hlen : k < ops.toList.length := by simpa using hkm
        rw [List.drop_eq_getElem_cons hlen]
        congr 1
        have : ops[k] = o := by simpa [hkm] using ho
        simpa using this
      rw [hdrop] at hw
      simp only [wpListIn] at hw
      have noc : ∀ j, j ∈ L → listed.getD j false = false → ∃ oj, ops[j]? = some oj ∧ clash ops oj o = false := fun j hj hjn => by
        have hjs := C.lag j hj
        obtain ⟨oj, hoj⟩ : ∃ y, ops[j]? = some y := ⟨ops[j], by simp [show j < ops.size by omega]⟩
        rcases C.dep k j hkm (by omega) with ⟨_, hc⟩ | hc
        · exact ⟨oj, hoj, hc oj o hoj ho⟩
        · rw [hclo j hc] at hjn; cases hjn
      have hsl : ∀ t, t ∈ o.looksAt ops → a.tmps.getD t undef = b.tmps.getD t undef := fun t ht => hag t fun j hj hjn e => by
        obtain ⟨oj, hoj, hc⟩ := noc j hj hjn
        exact (clash_dst (d := t) hc (by have := hslot j hj; rw [e] at this; simpa [dstOf, hoj] using this)).1 ht
      have hda : ∀ (y : Tmp), o.dst = some y → y < n := fun y hy => hdst o y homem hy
      have next : ∀ v w2 dd, wpListIn (WF ρ) 0 P ops (QL (L.map (slotOf ops)) Q') (ops.toList.drop (k + 1)) ({ b with defers := dd }.put o.dst v) w2 → wpAnyIn (WF ρ) 0 P .any ops Q' fuel (listed.setIfInBounds k true) ({ a with defers := dd }.put o.dst v) w2 := fun v w2 dd hh => by
        refine ih (k + 1) _ _ _ w2 (by omega) (by omega) (by simpa using hsz) (fun i hi hli => ?_) (fun i hi => ?_) hdown' (by rw [act_put_size]; exact hna) (by rw [act_put_size]; exact hnb) (by rw [act_put_defers, act_put_defers]) (fun t ht => ?_) (fun j hj hjn => ?_) hfuel hh
        · rw [hset] at hli
          by_cases hik : i = k
          · omega
          · rw [if_neg hik] at hli; have := hlt i hi hli; omega
        · rw [hset]
          by_cases hik : i = k
          · left; rw [if_pos hik]
          · rw [if_neg hik]; exact hle i (by omega)
        · rw [act_put_get (fun y hy => by show y < a.tmps.size; rw [hna]; exact hda y hy), act_put_get (fun y hy => by show y < b.tmps.size; rw [hnb]; exact hda y hy)]
          split
          · rfl
          · refine hag t fun j hj hjn => ht j hj ?_
            rw [hset, if_neg (show ¬ j = k from fun e => hkL (by rw [← e]; exact hj))]; exact hjn
        · rw [hset] at hjn
          by_cases hjk : j = k
          · exact absurd (by rw [← hjk]; exact hj) hkL
          · rw [if_neg hjk] at hjn
            obtain ⟨oj, x, u, hoj, hop, hpv, hbv⟩ := hpu j hj hjn
            obtain ⟨oj', hoj', hc⟩ := noc j hj hjn
            rw [hoj] at hoj'; cases hoj'
            have hb : ∀ (y : Tmp), o.dst = some y → y < ({ b with defers := dd } : Act).tmps.size := fun y hy => by show y < b.tmps.size; rw [hnb]; exact hda y hy
            have hdj : oj.dst = some (slotOf ops j) := by have := hslot j hj; simpa [dstOf, hoj] using this
            refine ⟨oj, x, u, hoj, hop, ?_, ?_⟩
            · rw [act_put_get hb, if_neg (fun e => (clash_dst' hc e).1 (looks_pure hop))]; exact hpv
            · rw [act_put_get hb, if_neg (fun e => (clash_dst hc hdj).2 e)]; exact hbv
      by_cases hL0 : ∃ j, j ∈ L ∧ listed.getD j false = false
      · obtain ⟨j, hj, hjn⟩ := hL0
        have hg := (hL j hj).2 k o hs ho
        rw [if_pos (by simp [Region.wanted, hg])] at hw ⊢
        refine wpIn_lag (C.plain o homem).1 (exec_same (C.plain o homem).2 hsl) (fun dd v w' hh => next v w' dd hh) hdf (fun ch w' hh => ?_) (fun hh => ?_) hw
        · refine hh.2 ch rfl a ⟨by omega, hdf, fun t ht => hag t fun j hj _ e => ht (List.mem_map.2 ⟨j, hj, e⟩)⟩
        · obtain ⟨a', w', h1⟩ := hh
          exact ⟨a', w', h1.1⟩
      · have hab : a = b := act_ext (by omega) hdf fun t => hag t fun j hj hjn => absurd ⟨j, hj, hjn⟩ hL0
        subst hab
        split
        · rename_i hwd
          rw [if_pos hwd] at hw
          refine wpIn_lag (C.plain o homem).1 rfl (fun dd v w' hh => next v w' dd hh) rfl (fun ch w' hh => hh.1) (fun hh => ?_) hw
          obtain ⟨a', w', h1⟩ := hh
          exact ⟨a', w', h1.1⟩
        · rename_i hwd
          rw [if_neg hwd] at hw
          exact ⟨fun _ _ => trivial, next undef w1 a.defers hw.2⟩
theorem nodup_disj {TS : List (List Nat)} (h : TS.flatten.Nodup) {i j : Nat} {T U : List Nat} (hi : TS[i]? = some T) (hj : TS[j]? = some U) {k : Nat} (hk : k ∈ T) (hk' : k ∈ U) : i = j := by
  induction TS generalizing i j with
  | nil => simp at hi
  | cons A TS ih =>
    rw [List.flatten_cons, List.nodup_append] at h
    cases i with
    | zero =>
      cases j with
      | zero => rfl
      | succ j =>
        simp only [List.getElem?_cons_zero, Option.some.injEq, List.getElem?_cons_succ] at hi hj
        subst hi
        exact (h.2.2 k hk k (List.mem_flatten.2 ⟨U, List.mem_of_getElem? hj, hk'⟩) rfl).elim
    | succ i =>
      cases j with
      | zero =>
        simp only [List.getElem?_cons_zero, Option.some.injEq, List.getElem?_cons_succ] at hi hj
        subst hj
        exact (h.2.2 k hk' k (List.mem_flatten.2 ⟨T, List.mem_of_getElem? hi, hk⟩) rfl).elim
      | succ j =>
        simp only [List.getElem?_cons_succ] at hi hj
        rw [ih h.2.1 hi hj]
def FinT (ρ : Option Nat) (P : Program) (ops : Array Oper) (R : World → World → Prop) (w0 : World) (n s : Nat) (g : Nat → Value) (ds : List Deferred) (Q' : Exit → Act → World → Prop) (TS : List (List Nat)) (Φs : Nat → List Value → World → Prop) (val0 : Nat → Option Value) (ψ : Nat → World → Prop) : Prop :=
  ∀ (val : Nat → Option Value) (a : Act) w1, a.tmps.size = n → (∀ t, a.tmps.getD t undef = lk ops.toList val g s t) → a.defers = ds → R w0 w1 → (∀ k, k < s → ψ k w1) → (∀ k, k ∉ TS.flatten → val k = val0 k) →
    (∀ i T, TS[i]? = some T → Φs i ((T.filter (hasDst ops)).map fun k => (val k).getD undef) w1) → wpListIn (WF ρ) 0 P ops Q' (ops.toList.drop s) a w1
theorem look_miss {ops : Array Oper} {val : Nat → Option Value} {g : Nat → Value} {listed : Array Bool} {t : Tmp} : ∀ k, (∀ j, j < k → dstOf ops j ≠ some t) → look ops val g listed k t = g t
  | 0, _ => rfl
  | k + 1, h => by
    have ih := look_miss (val := val) (g := g) (listed := listed) k fun j hj => h j (by omega)
    simp only [look]
    split
    · simp only [upd]
      have e : (ops[k]?).bind (·.dst) = dstOf ops k := rfl
      rw [e, if_neg (h k (by omega))]; exact ih
    · exact ih
theorem look_hit {ops : Array Oper} {s : Nat} {TS : List (List Nat)} (O : ThrOk ops s TS) {val : Nat → Option Value} {g : Nat → Value} {listed : Array Bool} {j : Nat} {t : Tmp} (hd : dstOf ops j = some t) (hl : listed.getD j false = true) : ∀ k, j < k → k ≤ s → look ops val g listed k t = (val j).getD undef
  | k + 1, h, hk => by
    by_cases hjk : j = k
    · subst hjk
      simp only [look, if_pos hl, upd]
      have e : (ops[j]?).bind (·.dst) = dstOf ops j := rfl
      rw [e, if_pos hd]
    · have ih := look_hit O (val := val) (g := g) hd hl k (by omega) (by omega)
      simp only [look]
      split
      · simp only [upd]
        have e : (ops[k]?).bind (·.dst) = dstOf ops k := rfl
        rw [e, if_neg (fun h' => hjk (O.uniq j k t (by omega) (by omega) hd h'))]; exact ih
      · exact ih
theorem thr_any {n s : Nat} {g : Nat → Value} {ds : List Deferred} {Q' : Exit → Act → World → Prop} {TS : List (List Nat)} {Φs : Nat → List Value → World → Prop} {val0 : Nat → Option Value} {ψ : Nat → World → Prop} {L : List Nat} (C : Checks ops s L) (O : ThrOk ops s TS) (hL : ∀ j, j ∈ L → (j ∈ TS.flatten ∧ isExt ops j = true) ∧ ∀ k o, s ≤ k → ops[k]? = some o → o.guard = none)
    (hpre : Pre R R) (hdst : ∀ (o : Oper) d, o ∈ ops → o.dst = some d → d < n)
    (hgs : ∀ (o : Oper) j want, o ∈ ops → o.guard = some (j, want) → ∃ d, (ops[j]?).bind (·.dst) = some d ∧ d < n) (hg0 : ∃ E0, get E0 = g)
    (hX : ∀ ch w1 (a : Act) (listed : Array Bool) val ψ, Inv ops R R 0 w0 n s val ψ g ds listed a w1 → ∀ w2, X ch w2 → Q' (.panic ch) a w2)
    (hSr : ∀ u a, S u a a)
    (hob : ∀ k o, k < s → k ∉ TS.flatten → ops[k]? = some o → Ob P ops R (Both R S) w0 X o (lk ops.toList val0 g k) (val0 k) (ψ k))
    (hψ : ∀ k, k ∈ TS.flatten → ψ k = fun _ => True)
    (hfin : FinT ρ P ops R w0 n s g ds (QL (L.map (slotOf ops)) Q') TS Φs val0 ψ) :
    ∀ (fuel : Nat) (listed : Array Bool) (a : Act) (w1 : World) (val : Nat → Option Value), Inv ops R R 0 w0 n s val ψ g ds listed a w1 →
      (∀ k, k ∉ TS.flatten → val k = val0 k) →
      (∀ i T, TS[i]? = some T → ∃ dn rest E Θ, TSt P ops R S i w0 X (lk ops.toList val0 g s) val listed (Φs i) T dn rest E Θ w1) →
      fuel = un listed ops.size → wpAnyIn (WF ρ) 0 P .any ops Q' fuel listed a w1 := by
  have hget : ∀ k : Nat, ops.toList[k]? = ops[k]? := fun k => by simp
  have hle := C.le
  have full : ∀ (listed : Array Bool) (val : Nat → Option Value), (∀ k, k < s → listed.getD k false = true) → ∀ k, k ≤ s → look ops val g listed k = lk ops.toList val g k := fun listed val hall k => by
    induction k with
    | zero => intro _; rfl
    | succ k ih => intro hk; simp only [look, lk, if_pos (hall k (by omega)), ih (by omega), hget]
  have done : ∀ (fuel : Nat) (listed : Array Bool) (a : Act) (w1 : World) (val : Nat → Option Value), Inv ops R R 0 w0 n s val ψ g ds listed a w1 → (∀ k, k ∉ TS.flatten → val k = val0 k) →
      (∀ i T, TS[i]? = some T → ∃ dn rest E Θ, TSt P ops R S i w0 X (lk ops.toList val0 g s) val listed (Φs i) T dn rest E Θ w1) →
      fuel = un listed ops.size → (∀ k, k < s → listed.getD k false = true ∨ k ∈ L) → wpAnyIn (WF ρ) 0 P .any ops Q' fuel listed a w1 :=
    fun fuel listed a w1 val I hv hT hf hall => by
    have hflat : ∀ {i : Nat} {T : List Nat}, TS[i]? = some T → ∀ j, j ∈ T → j ∈ TS.flatten := fun hi j hj => List.mem_flatten.2 ⟨_, List.mem_of_getElem? hi, hj⟩
    have allA : ∀ m, ∃ val' : Nat → Option Value, (∀ k, k ∉ TS.flatten → val' k = val0 k) ∧ (∀ j, listed.getD j false = true → val' j = val j) ∧
        (∀ i T, TS[i]? = some T → i < m → ∃ E Θ, TSt P ops R S i w0 X (lk ops.toList val0 g s) val' listed (Φs i) T T [] E Θ w1) ∧
        (∀ i T, TS[i]? = some T → m ≤ i → ∃ dn rest E Θ, TSt P ops R S i w0 X (lk ops.toList val0 g s) val' listed (Φs i) T dn rest E Θ w1) := fun m => by
      induction m with
      | zero => exact ⟨val, hv, fun _ _ => rfl, fun i T _ h => by omega, fun i T hi _ => hT i T hi⟩
      | succ m ihm =>
        obtain ⟨val', h1, h2, h3, h4⟩ := ihm
        cases hm : TS[m]? with
        | none => exact ⟨val', h1, h2, fun i T hi hlt => h3 i T hi (by
            rcases Nat.lt_or_ge i m with h | h
            · exact h
            · have : i = m := by omega
              subst this
              rw [hm] at hi; cases hi), fun i T hi hle => h4 i T hi (by omega)⟩
        | some T =>
          obtain ⟨dn, rest, E, Θ, St⟩ := h4 m T hm (Nat.le_refl _)
          have hrx : ∀ j, j ∈ rest → isExt ops j = true := fun j hj => by
            have hjT : j ∈ T := by rw [St.split]; simp [hj]
            rcases hall j (O.lt j (hflat hm j hjT)) with h | h
            · rw [St.open_ j hj] at h; cases h
            · exact (hL j h).1.2
          obtain ⟨val2, E2, Θ2, St2, hval2⟩ := TSt.ahead O (List.mem_of_getElem? hm) I.rel rest dn [] val' E Θ (by rw [List.append_nil]; exact St) hrx
          rw [← St.split] at St2
          have hpl : ∀ j, j ∈ rest → listed.getD j false = false := St.open_
          have keep : ∀ i' T' dn' rest' E' Θ', TS[i']? = some T' → i' ≠ m → TSt P ops R S i' w0 X (lk ops.toList val0 g s) val' listed (Φs i') T' dn' rest' E' Θ' w1 → TSt P ops R S i' w0 X (lk ops.toList val0 g s) val2 listed (Φs i') T' dn' rest' E' Θ' w1 := fun i' T' dn' rest' E' Θ' hi' hne S' => by
            have hno : ∀ j, j ∈ T → j ∉ T' := fun j hj h => hne (nodup_disj O.nodup hi' hm h hj)
            have hd' : ∀ j, j ∈ dn' → j ∉ rest := fun j hj h => hno j (by rw [St.split]; simp [h]) (by rw [S'.split]; simp [hj])
            refine ⟨S'.split, fun j hj => ?_, S'.open_, fun j hj hjd => ?_, S'.miss, S'.stable, S'.now, ?_⟩
            · rcases S'.done j hj with h | ⟨o', x, u, h1, h2, h3, h5⟩
              · exact .inl h
              · exact .inr ⟨o', x, u, h1, h2, h3, by rw [hval2 j (hd' j hj)]; exact h5⟩
            · rw [hval2 j (hd' j hj)]; exact S'.hit j hj hjd
            · have e : ((dn'.filter (hasDst ops)).map fun k => (val2 k).getD undef) = (dn'.filter (hasDst ops)).map fun k => (val' k).getD undef := List.map_congr_left fun j hj => by rw [hval2 j (hd' j (List.mem_filter.1 hj).1)]
              rw [e]; exact S'.chain
          refine ⟨val2, fun k hk => ?_, fun j hj => ?_, fun i T' hi hlt => ?_, fun i T' hi hle => ?_⟩
          · rw [hval2 k fun h => hk (hflat hm k (by rw [St.split]; simp [h]))]; exact h1 k hk
          · rw [hval2 j fun h => by rw [hpl j h] at hj; cases hj]; exact h2 j hj
          · by_cases him : i = m
            · subst him
              rw [hm] at hi; cases hi
              exact ⟨E2, Θ2, St2⟩
            · obtain ⟨E', Θ', S'⟩ := h3 i T' hi (by omega)
              exact ⟨E', Θ', keep i T' _ _ _ _ hi him S'⟩
          · obtain ⟨dn', rest', E', Θ', S'⟩ := h4 i T' hi (by omega)
            exact ⟨dn', rest', E', Θ', keep i T' _ _ _ _ hi (by omega) S'⟩
    obtain ⟨val', hv', hsame, hTS, _⟩ := allA TS.length
    have hTS : ∀ i T, TS[i]? = some T → ∃ E Θ, TSt P ops R S i w0 X (lk ops.toList val0 g s) val' listed (Φs i) T T [] E Θ w1 := fun i T hi => hTS i T hi (by
      rcases Nat.lt_or_ge i TS.length with h | h
      · exact h
      · rw [List.getElem?_eq_none h] at hi; cases hi)
    have hbig : ∀ t, n ≤ t → ∀ j, j < s → dstOf ops j ≠ some t := fun t ht j hj h => by
      obtain ⟨x, hx⟩ : ∃ x, ops[j]? = some x := ⟨ops[j], by simp [show j < ops.size by omega]⟩
      exact absurd (hdst x t (Array.mem_of_getElem? hx) (by simpa [dstOf, hx] using h)) (Nat.not_lt.2 ht)
    obtain ⟨b, hb⟩ : ∃ b : Act, b = { tmps := (Array.range n).map fun t => lk ops.toList val' g s t, defers := ds } := ⟨_, rfl⟩
    have hbs : b.tmps.size = n := by rw [hb]; simp
    have hbg : ∀ t, b.tmps.getD t undef = lk ops.toList val' g s t := fun t => by
      by_cases ht : t < n
      · rw [hb]; simp [Array.getD_eq_getD_getElem?, ht]
      · have h1 : b.tmps.getD t undef = undef := by simp [Array.getD_eq_getD_getElem?, show ¬ t < b.tmps.size by omega]
        have h2 := I.vals t
        rw [look_miss s (hbig t (by omega))] at h2
        have h3 : a.tmps.getD t undef = undef := by simp [Array.getD_eq_getD_getElem?, show ¬ t < a.tmps.size by rw [I.asize]; omega]
        rw [h1, lk_miss s (hbig t (by omega)), ← h2, h3]
    refine tail_lag (n := n) (b := b) C O hL hdst fuel s listed a w1 (Nat.le_refl _) C.le I.size (fun i hi hli => ?_) hall I.down I.asize hbs (by rw [hb]; exact I.defers) (fun t ht => ?_) (fun j hj hjn => ?_) hf ?_
    · rcases Nat.lt_or_ge i s with h | h
      · exact h
      · rw [I.lo i hi h] at hli; cases hli
    · rw [I.vals t, hbg t]
      by_cases hw : ∃ j, j < s ∧ dstOf ops j = some t
      · obtain ⟨j, hjs, hdj⟩ := hw
        cases hlj : listed.getD j false with
        | true => rw [look_hit O hdj hlj s hjs (Nat.le_refl _), lk_hit O hdj s hjs (Nat.le_refl _), hsame j hlj]
        | false =>
          rcases hall j hjs with h | h
          · rw [hlj] at h; cases h
          · exact absurd (by show (dstOf ops j).getD 0 = t; rw [hdj]; rfl) (ht j h hlj)
      · have hno : ∀ j, j < s → dstOf ops j ≠ some t := fun j hj h => hw ⟨j, hj, h⟩
        rw [look_miss s hno, lk_miss s hno]
    · have hjf := (hL j hj).1.1
      obtain ⟨T, hTT, hjT⟩ := List.mem_flatten.1 hjf
      obtain ⟨i, hi⟩ := List.getElem?_of_mem hTT
      obtain ⟨E, Θ, St⟩ := hTS i T hi
      rcases St.done j hjT with h | ⟨o, x, v, ho, hop, hvx, hvj⟩
      · rw [hjn] at h; cases h
      refine ⟨o, x, v, ho, hop, ?_, ?_⟩
      · rw [hbg x]
        have e : lk ops.toList val' g s x = get E x := by
          by_cases hw : ∃ j', j' < s ∧ dstOf ops j' = some x
          · obtain ⟨j', hjs', hdj'⟩ := hw
            obtain ⟨_, hor⟩ := O.looks j j' x o (O.lt j hjf) hjs' hdj' ho (looks_pure hop)
            rw [lk_hit O hdj' s hjs' (Nat.le_refl _)]
            rcases hor with hjn' | ⟨U, hU, hjU, hkU⟩
            · rw [St.miss x (fun k hk hh he => hjn' (by
                have hd' := O.dst k (hflat hi k hk) hh
                rw [he] at hd'
                rw [O.uniq j' k x hjs' (O.lt k (hflat hi k hk)) hdj' hd']
                exact hflat hi k hk)), lk_hit O hdj' s hjs' (Nat.le_refl _), hv' j' hjn']
            · obtain ⟨i', hi'⟩ := List.getElem?_of_mem hU
              have hii := nodup_disj O.nodup hi' hi hkU hjT
              subst hii
              rw [hi] at hi'
              cases hi'
              have hsl : slotOf ops j' = x := by
                show (dstOf ops j').getD 0 = x
                rw [hdj']; rfl
              rw [← hsl, St.hit j' hjU (by show (dstOf ops j').isSome = true; rw [hdj']; rfl)]
          · have hno : ∀ j', j' < s → dstOf ops j' ≠ some x := fun j' hj' h => hw ⟨j', hj', h⟩
            rw [lk_miss s hno, St.miss x (fun k hk hh he => hno k (O.lt k (hflat hi k hk)) (by rw [O.dst k (hflat hi k hk) hh, he])), lk_miss s hno]
        rw [e]; exact hvx
      · rw [hbg, lk_hit O (O.dst j hjf (isExt_dst (hL j hj).1.2)) s (O.lt j hjf) (Nat.le_refl _), hvj]; rfl
    · refine hfin val' b w1 hbs hbg (by rw [hb]) I.rel (fun k hk => ?_) hv' fun i T hi => ?_
      · rcases hall k hk with h | h
        · exact I.facts k hk h
        · rw [hψ k (hL k h).1.1]; trivial
      · obtain ⟨E, Θ, St⟩ := hTS i T hi
        exact St.chain w1 I.rel St.now
  intro fuel
  induction fuel with
  | zero =>
    intro listed a w1 val I hv hT hf
    have hall := un_zero (listed := listed) (m := ops.size) hf.symm
    exact done 0 listed a w1 val I hv hT hf fun k hk => .inl (hall k (by omega))
  | succ fuel ih =>
    intro listed a w1 val I hv hT hf
    by_cases hall : ∀ k, k < s → listed.getD k false = true ∨ k ∈ L
    · exact done _ listed a w1 val I hv hT hf hall
    · have hex1 : ∃ k, k < s ∧ listed.getD k false = false ∧ k ∉ L := by
        refine Classical.byContradiction fun hn => hall fun k hk => ?_
        cases hh : listed.getD k false with
        | true => exact .inl rfl
        | false =>
          right
          exact Classical.byContradiction fun hkL => hn ⟨k, hk, hh, hkL⟩
      obtain ⟨k1, hk1, hk1n, hk1L⟩ := hex1
      have hex : ∃ k, k < s ∧ listed.getD k false = false := ⟨k1, hk1, hk1n⟩
      have hmin : ∃ k, k < s ∧ listed.getD k false = false ∧ ∀ j, j < k → listed.getD j false = true := by
        obtain ⟨k, hk⟩ := hex
        revert hk
        induction k using Nat.strongRecOn with
        | _ k ihk =>
          intro hk
          by_cases hj : ∃ j, j < k ∧ listed.getD j false = false
          · obtain ⟨j, hj1, hj2⟩ := hj
            exact ihk j hj1 ⟨by omega, hj2⟩
          · refine ⟨k, hk.1, hk.2, fun j hjk => ?_⟩
            cases hh : listed.getD j false with
            | true => rfl
            | false => exact absurd ⟨j, hjk, hh⟩ hj
      obtain ⟨k0, hk0, hk0n, hk0m⟩ := hmin
      have hr0 : k0 ∈ Region.ready .any ops listed := (mem_ready I.size).2 ⟨by omega, hk0n, fun j hj => hk0m j (C.lt k0 j (by omega) hj)⟩
      refine ⟨fun hn => (by rw [hn] at hr0; simp at hr0), fun k hk => ?_⟩
      obtain ⟨hkm, hkn, hkp⟩ := (mem_ready I.size).1 hk
      have hks : k < s := by
        rcases Nat.lt_or_ge k s with h | h
        · exact h
        · rcases C.dep k k1 hkm (by omega) with ⟨hd, _⟩ | hd
          · rcases hd with hd | hd
            · omega
            · exact absurd hd hk1L
          · rw [clo_listed C.lt I.down 12 k hkm hkp k1 hd] at hk1n; cases hk1n
      obtain ⟨o, ho⟩ : ∃ o, ops[k]? = some o := ⟨ops[k], by simp [hkm]⟩
      have homem : o ∈ ops := Array.mem_of_getElem? ho
      have hksz : k < listed.size := by rw [I.size]; exact hkm
      have hfuel : fuel = un (listed.setIfInBounds k true) ops.size := by
        have := un_set (listed := listed) (k := k) hksz hkn ops.size
        rw [if_pos hkm] at this
        omega
      have hset : ∀ i, (listed.setIfInBounds k true).getD i false = if i = k then true else listed.getD i false := fun i => getD_set hksz
      have run : ∀ (Ek : Env) (K : Value → World → Prop), (∀ t, t ∈ o.looksAt ops → a.tmps.getD t undef = get Ek t) → opP P (ev Ek) o w1 K X noD →
          (∀ v w2, K v w2 → wpAnyIn (WF ρ) 0 P .any ops Q' fuel (listed.setIfInBounds k true) (a.put o.dst v) w2) → o.wpIn (WF ρ) 0 P a w1 (wpAnyIn (WF ρ) 0 P .any ops Q' fuel (listed.setIfInBounds k true)) Q' := fun Ek K hslot hop hnext => by
        have hex2 : execOp a.eval o = execOp (ev Ek) o := execOp_congr o (C.plain o homem).2 fun x hx => by
          cases x with
          | tmp t =>
            have ht : t ∈ o.looksAt ops := by
              simp only [Oper.looksAt, List.mem_append, List.mem_filterMap]
              exact .inl ⟨.tmp t, Array.mem_toList_iff.2 hx, rfl⟩
            exact hslot t ht
          | _ => rfl
        have hup := upon_of_do (ρ := ρ) (o := o) (a := a) (next := wpAnyIn (WF ρ) 0 P .any ops Q' fuel (listed.setIfInBounds k true)) (Q := Q') (do_of_opP hop) hnext (fun ch w2 hx => hX ch w1 a listed val ψ I w2 hx) (fun d w2 hd => hd.elim)
        rw [← hex2] at hup
        refine ⟨fun _ _ => trivial, ?_⟩
        rw [semAt_wf (.inr (C.plain o homem).1)]
        exact hup
      have hΨ : ∀ j, j < s → ∀ x y, ψ j x → R x y → ψ j y := fun j hj x y hx hr => by
        by_cases hjn : j ∈ TS.flatten
        · rw [hψ j hjn]; trivial
        · obtain ⟨x', hx'⟩ : ∃ x, ops[j]? = some x := ⟨ops[j], by simp [show j < ops.size by omega]⟩
          exact (hob j x' hj hjn hx').1 _ _ hx hr
      have hDn : ∀ j, DnA R R 0 j = R := fun j => by unfold DnA; cases Nat.beq 0 (j + 1) <;> rfl
      unfold wpOpIn
      simp only [ho]
      by_cases hkd : k ∈ TS.flatten
      · obtain ⟨T, hTT, hkT⟩ := List.mem_flatten.1 hkd
        obtain ⟨i, hi⟩ := List.getElem?_of_mem hTT
        obtain ⟨dn, rest, E, Θ, St⟩ := hT i T hi
        have hg := O.guard k o hkd ho
        have hTj : ∀ j, j ∈ T → j ∈ TS.flatten := fun j hj => List.mem_flatten.2 ⟨T, hTT, hj⟩
        have hlst : ∀ j, j ≠ k → (listed.setIfInBounds k true).getD j false = listed.getD j false := fun j hj => by rw [hset, if_neg hj]
        have hlook : ∀ (val : Nat → Option Value) (dn rest : List Nat) (E : Env) (Θ : World → Prop), (∀ t, t ∈ o.looksAt ops → a.tmps.getD t undef = lk ops.toList val g k t) → (∀ k, k ∉ TS.flatten → val k = val0 k) → TSt P ops R S i w0 X (lk ops.toList val0 g s) val listed (Φs i) T dn rest E Θ w1 → (∀ j, j ∈ T → j < k → j ∈ dn) →
            ∀ t, t ∈ o.looksAt ops → a.tmps.getD t undef = get E t := fun val dn rest E Θ hslot hv St hbef t ht => by
          have hdT : ∀ j, j ∈ dn → j ∈ T := fun j hj => by rw [St.split]; simp [hj]
          rw [hslot t ht]
          by_cases hw : ∃ j, j < s ∧ dstOf ops j = some t
          · obtain ⟨j, hjs, hdj⟩ := hw
            obtain ⟨hjk, hor⟩ := O.looks k j t o hks hjs hdj ho ht
            rw [lk_hit O hdj k hjk (by omega)]
            rcases hor with hjn | ⟨U, hU, hjU, hkU⟩
            · rw [St.miss t (fun j' hj' hh he => hjn (by
                have hd' := O.dst j' (hTj j' (hdT j' hj')) hh
                rw [he] at hd'
                rw [O.uniq j j' t hjs (O.lt j' (hTj j' (hdT j' hj'))) hdj hd']
                exact hTj j' (hdT j' hj'))), lk_hit O hdj s hjs (Nat.le_refl _), hv j hjn]
            · obtain ⟨i', hi'⟩ := List.getElem?_of_mem hU
              have hii := nodup_disj O.nodup hi' hi hkU hkT
              subst hii
              rw [hi] at hi'
              cases hi'
              have hjd : j ∈ dn := hbef j hjU hjk
              have hsl : slotOf ops j = t := by
                show (dstOf ops j).getD 0 = t
                rw [hdj]; rfl
              rw [← hsl, St.hit j hjd (by show (dstOf ops j).isSome = true; rw [hdj]; rfl)]
          · have hno : ∀ j, j < s → dstOf ops j ≠ some t := fun j hj h => hw ⟨j, hj, h⟩
            rw [lk_miss k fun j hj => hno j (by omega), St.miss t (fun j' hj' hh he => hno j' (O.lt j' (hTj j' (hdT j' hj'))) (by rw [O.dst j' (hTj j' (hdT j' hj')) hh, he])), lk_miss s hno]
        rw [if_pos (by simp [Region.wanted, hg])]
        have hasc := O.asc T hTT
        rw [St.split, List.pairwise_append] at hasc
        rw [St.split, List.mem_append] at hkT
        rcases hkT with hkdn | hkr
        · -- it was known ahead what it gives
          have hkT' : k ∈ T := by rw [St.split]; simp [hkdn]
          rcases St.done k hkdn with h | ⟨o', x, v, ho', hop, hvx, hvk⟩
          · rw [hkn] at h; cases h
          rw [ho] at ho'; cases ho'
          obtain ⟨hslot, hinv, _⟩ := draw_step C hpre hdst hgs I hk hks ho
          have hl2 := hlook val dn rest E Θ hslot hv St fun j hj hlt => by
            rw [St.split, List.mem_append] at hj
            rcases hj with h | h
            · exact h
            · have := hasc.2.2 k hkdn j h; omega
          refine (run E (fun u w2 => u = v ∧ w2 = w1) hl2 (opP_of_ext hop hvx ⟨rfl, rfl⟩) fun u w2 hu => ?_)
          obtain ⟨rfl, rfl⟩ := hu
          have I2 := hinv (some u) w2 (by rw [hvk]) (by rw [hDn]; exact hpre.rs _) (by rw [hψ k hkd]; trivial) (fun j hj _ hx => hx)
          have hkr : k ∉ rest := fun h => by have := hasc.2.2 k hkdn k h; omega
          refine ih _ _ _ _ I2 hv (fun i' T' hi' => ?_) hfuel
          by_cases hii : i' = i
          · subst hii
            rw [hi] at hi'; cases hi'
            refine ⟨dn, rest, E, Θ, ⟨St.split, fun j hj => ?_, fun j hj => ?_, St.hit, St.miss, St.stable, St.now, St.chain⟩⟩
            · by_cases hjk : j = k
              · left; rw [hset, if_pos hjk]
              · rw [hlst j hjk]; exact St.done j hj
            · rw [hlst j fun e => hkr (e ▸ hj)]; exact St.open_ j hj
          · obtain ⟨dn', rest', E', Θ', S'⟩ := hT i' T' hi'
            have hno : k ∉ T' := fun h => hii (nodup_disj O.nodup hi' hi h hkT')
            refine ⟨dn', rest', E', Θ', ⟨S'.split, fun j hj => ?_, fun j hj => ?_, S'.hit, S'.miss, S'.stable, S'.now, S'.chain⟩⟩
            · rw [hlst j fun e => hno (by rw [← e, S'.split]; simp [hj])]; exact S'.done j hj
            · rw [hlst j fun e => hno (by rw [← e, S'.split]; simp [hj])]; exact S'.open_ j hj
        · -- what stands ahead of it in its chain, and has not run, takes parts of tuples
          obtain ⟨p, r, hrest⟩ := List.append_of_mem hkr
          subst hrest
          have hasr := List.pairwise_append.1 hasc.2.1
          have hpx : ∀ j, j ∈ p → isExt ops j = true := fun j hj => by
            have hjk : j < k := hasr.2.2 j hj k (by simp)
            rcases O.chain T hTT k j (by rw [St.split]; simp) (by rw [St.split]; simp [hj]) hjk with hc | hc
            · have := clo_listed C.lt I.down 12 k hkm hkp j hc
              rw [St.open_ j (by simp [hj])] at this; cases this
            · exact hc.1
          obtain ⟨val1, E1, Θ1, St1, hval1⟩ := TSt.ahead O hTT I.rel p dn (k :: r) val E Θ St hpx
          have hpl : ∀ j, j ∈ p → listed.getD j false = false := fun j hj => St.open_ j (by simp [hj])
          have hpf : ∀ j, j ∈ p → j ∈ TS.flatten := fun j hj => hTj j (by rw [St.split]; simp [hj])
          have I1 : Inv ops R R 0 w0 n s val1 ψ g ds listed a w1 :=
            ⟨I.size, I.down, I.asize, fun t => by
              rw [I.vals t, look_congr (val' := val1)]
              intro j hj
              rw [hval1 j fun h => by rw [hpl j h] at hj; cases hj], I.defers, I.rel, I.relm, I.facts, I.lo⟩
          have hv1 : ∀ j, j ∉ TS.flatten → val1 j = val0 j := fun j hj => by rw [hval1 j fun h => hj (hpf j h)]; exact hv j hj
          obtain ⟨hslot, _, _⟩ := draw_step C hpre hdst hgs I1 hk hks ho
          have hl2 := hlook val1 (dn ++ p) (k :: r) E1 Θ1 hslot hv1 St1 fun j hj hlt => by
            rw [St.split, List.mem_append, List.mem_append] at hj
            rw [List.mem_append]
            rcases hj with h | h | h
            · exact .inl h
            · exact .inr h
            · rcases List.mem_cons.1 h with h | h
              · omega
              · have := (List.pairwise_cons.1 hasr.2.1).1 j h; omega
          have hch := St1.chain
          simp only [thrChain, ho] at hch
          obtain ⟨φ, hφs, hφo, hφr⟩ := hch
          refine (run E1 _ hl2 (hφo w1 I.rel St1.now) fun v w2 ⟨⟨hr, hrS⟩, hp⟩ => ?_)
          have I' : Inv ops R R 0 w0 n s (fun j => if j = k then some v else val1 j) ψ g ds listed a w1 :=
            ⟨I1.size, I1.down, I1.asize, fun t => by
              rw [I1.vals t, look_congr (val' := fun j => if j = k then some v else val1 j)]
              intro j hj
              show val1 j = if j = k then some v else val1 j
              rw [if_neg (fun e => by rw [e, hkn] at hj; cases hj)], I1.defers, I1.rel, I1.relm, I1.facts, I1.lo⟩
          obtain ⟨_, hinv, _⟩ := draw_step C hpre hdst hgs I' hk hks ho
          have I2 := hinv (some v) w2 (by simp) (by rw [hDn]; exact hr) (by rw [hψ k hkd]; trivial) (fun j hj _ hx => hΨ j hj _ _ hx hr)
          refine ih _ _ _ _ I2 (fun j hj => ?_) (fun i' T' hi' => ?_) hfuel
          · show (if j = k then some v else val1 j) = val0 j
            rw [if_neg (fun e => hj (by rw [e]; exact hkd))]
            exact hv1 j hj
          · by_cases hii : i' = i
            · subst hii
              rw [hi] at hi'
              cases hi'
              exact ⟨_, _, _, _, TSt.push O hTT St1 hlst (.inl (by rw [hset, if_pos rfl])) hφs hp (hφr v)⟩
            · obtain ⟨dn', rest', E', Θ', S'⟩ := hT i' T' hi'
              have hno : ∀ j, j ∈ T → j ∉ T' := fun j hj h => hii (nodup_disj O.nodup hi' hi h hj)
              have hkT' : k ∉ T' := hno k (by rw [St.split]; simp)
              have S1 : TSt P ops R S i' w0 X (lk ops.toList val0 g s) val1 listed (Φs i') T' dn' rest' E' Θ' w1 := by
                have hd' : ∀ j, j ∈ dn' → j ∉ p := fun j hj h => hno j (by rw [St.split]; simp [h]) (by rw [S'.split]; simp [hj])
                refine ⟨S'.split, fun j hj => ?_, S'.open_, fun j hj hjd => ?_, S'.miss, S'.stable, S'.now, ?_⟩
                · rcases S'.done j hj with h | ⟨o', x, u, h1, h2, h3, h5⟩
                  · exact .inl h
                  · exact .inr ⟨o', x, u, h1, h2, h3, by rw [hval1 j (hd' j hj)]; exact h5⟩
                · rw [hval1 j (hd' j hj)]; exact S'.hit j hj hjd
                · have e : ((dn'.filter (hasDst ops)).map fun k => (val1 k).getD undef) = (dn'.filter (hasDst ops)).map fun k => (val k).getD undef := List.map_congr_left fun j hj => by rw [hval1 j (hd' j (List.mem_filter.1 hj).1)]
                  rw [e]; exact S'.chain
              exact ⟨dn', rest', E', Θ', TSt.other S1 hkT' hlst (hrS i' hii)⟩
      · obtain ⟨hslot, hinv, hyield⟩ := draw_step C hpre hdst hgs I hk hks ho
        have hsame : ∀ t, t ∈ o.looksAt ops → lk ops.toList val g k t = lk ops.toList val0 g k t := fun t ht => by
          by_cases hw : ∃ j, j < s ∧ dstOf ops j = some t
          · obtain ⟨j, hjs, hdj⟩ := hw
            obtain ⟨hjk, hor⟩ := O.looks k j t o hks hjs hdj ho ht
            rw [lk_hit O hdj k hjk (by omega), lk_hit O hdj k hjk (by omega)]
            rcases hor with hjn | ⟨U, hU, hjU, hkU⟩
            · rw [hv j hjn]
            · exact absurd (List.mem_flatten.2 ⟨U, hU, hkU⟩) hkd
          · have hno : ∀ j, j < s → dstOf ops j ≠ some t := fun j hj h => hw ⟨j, hj, h⟩
            rw [lk_miss k fun j hj => hno j (by omega), lk_miss k fun j hj => hno j (by omega)]
        obtain ⟨_, hobk⟩ := hob k o hks hkd ho
        have next : ∀ a' w2, (∀ u, S u w1 w2) → Inv ops R R 0 w0 n s val ψ g ds (listed.setIfInBounds k true) a' w2 → wpAnyIn (WF ρ) 0 P .any ops Q' fuel (listed.setIfInBounds k true) a' w2 := fun a' w2 hr I2 =>
          ih _ _ _ _ I2 hv (fun i' T' hi' => by
            obtain ⟨dn', rest', E', Θ', S'⟩ := hT i' T' hi'
            have hkT' : k ∉ T' := fun h => hkd (List.mem_flatten.2 ⟨T', List.mem_of_getElem? hi', h⟩)
            have hne : ∀ j, j ∈ T' → j ≠ k := fun j hj e => hkT' (e ▸ hj)
            refine ⟨dn', rest', E', Θ', ⟨S'.split, fun j hj => ?_, fun j hj => ?_, S'.hit, S'.miss, S'.stable, S'.stable _ _ S'.now (hr i'), S'.chain⟩⟩
            · rw [hset, if_neg (hne j (by rw [S'.split]; simp [hj]))]; exact S'.done j hj
            · rw [hset, if_neg (hne j (by rw [S'.split]; simp [hj]))]; exact S'.open_ j hj) hfuel
        have hguard : ∀ j want, o.guard = some (j, want) → lk ops.toList val g k (slotOf ops j) = lk ops.toList val0 g k (slotOf ops j) := fun j want hg => by
          obtain ⟨d, hd, _⟩ := hgs o j want homem hg
          have hs : slotOf ops j = d := by simp [slotOf, hd]
          rw [hs]
          exact hsame d (by simp [Oper.looksAt, hg, hd])
        have hvk := hv k hkd
        cases hval : val0 k with
        | none =>
          rw [hval] at hobk
          obtain ⟨⟨j, want, hg, hne⟩, hp⟩ := hobk
          rw [if_neg (by simp only [Region.wanted, hg]; intro h; exact hne (by rw [← hguard j want hg]; exact (hyield j want hg).1 h))]
          exact ⟨fun _ _ => trivial, next _ _ (fun u => hSr u _) (hinv none w1 (by rw [hvk, hval]) (DnA_refl hpre _) (hp w1) fun j hj _ h => h)⟩
        | some c =>
          rw [hval] at hobk
          obtain ⟨hgd, hop⟩ := hobk
          rw [if_pos (by
            cases hg : o.guard with
            | none => simp [Region.wanted, hg]
            | some jw => obtain ⟨j, want⟩ := jw; simp only [Region.wanted, hg]; exact (hyield j want hg).2 (by rw [hguard j want hg]; exact hgd j want hg))]
          obtain ⟨Ek, hEk⟩ := lk_env ops.toList val0 g hg0 k
          have hop := hop w1 I.rel
          rw [← hEk, ← ev_evF] at hop
          refine (run Ek _ (fun t ht => by rw [hslot t ht, hsame t ht, hEk]) hop fun v w2 hk => ?_)
          obtain ⟨rfl, hr, hp⟩ := hk
          exact next _ _ hr.2 (hinv (some v) w2 (by rw [hvk, hval]) (by rw [hDn]; exact hr.1) hp fun j hj _ h => hΨ j hj _ _ h hr.1)
end threads
theorem thrAll_out {P : Program} {ops : Array Oper} {R : World → World → Prop} {S : Nat → World → World → Prop} {w0 : World} {X : List PanicEntry → World → Prop} {Q : Post} {ds : List Deferred} {s : Nat} {nds : List Nat} {E : Env} {F : World → Prop} :
    ∀ (TS : List (List Nat)) (t : Nat) (fac : (Nat → Value) → World → Prop), thrAll P ops R S w0 X Q ds s nds E F TS t fac →
      ∃ Φs : Nat → List Value → World → Prop, (∀ i T, TS[i]? = some T → ∃ Θ : World → Prop, Θ w0 ∧ (∀ a b, Θ a → S (t + i) a b → Θ b) ∧ thrChain P ops R S (t + i) w0 X (fun vs Θ => ∀ w1, R w0 w1 → Θ w1 → Φs i vs w1) T E Θ []) ∧
        ∀ h w1, R w0 w1 → F w1 → fac h w1 → (∀ i T, TS[i]? = some T → Φs i ((T.filter (hasDst ops)).map fun k => h (slotOf ops k)) w1) → vcOps P ops Q (ops.toList.drop s) (havoc nds h E) ds w1
  | [], _, fac, hv => ⟨fun _ _ _ => True, fun _ _ h => by simp at h, fun h w1 hr hF hf _ => hv h w1 hr ⟨hF, hf⟩⟩
  | T :: TS, t, fac, ⟨Θ, Φ, h0, h1, h2, h3⟩ => by
    obtain ⟨Φs, g1, g2⟩ := thrAll_out TS (Nat.succ t) _ h3
    refine ⟨fun i => match i with | 0 => Φ | i + 1 => Φs i, fun i U hi => ?_, fun h w1 hr hF hf hall => g2 h w1 hr hF ⟨hf, hall 0 T rfl⟩ fun i U hi => hall (i + 1) U (by simpa using hi)⟩
    cases i with
    | zero => simp only [List.getElem?_cons_zero, Option.some.injEq] at hi; subst hi; exact ⟨Θ, h0, h1, h2⟩
    | succ i =>
      have := g1 i U (by simpa using hi)
      rw [show Nat.succ t + i = t + (i + 1) by omega] at this
      exact this
theorem thr_sound {P : Program} {n id : Nat} {rs : List Nat} {ops : Array Oper} {s : Nat} {TS : List (List Nat)} (hm : P.follows .mixedOrders = true) {E : Env} {a : Act} {ds : List Deferred} {w : World} {Q : Post} {Q' : Exit → Act → World → Prop} (C : Checks ops s (lagOf ops s TS)) (O : ThrOk ops s TS)
    (hops : opsOk n ops ops.toList = true) (hrs : ∀ o, o ∈ ops.toList → ∀ d, o.dst = some d → d ∉ rs) (hp : ∀ ch E E' ds w, (∀ t, t ∈ rs → get E t = get E' t) → Q (.panic ch) E ds w → Q (.panic ch) E' ds w) (ha : Agree n E a) (hd : a.defers = ds)
    (hq : ∀ e E' a' ds' w', Agree n E' a' → a'.defers = ds' → Q e E' ds' w' → Q' e a' w') (hv : vcThr P ops s TS Q E ds w) : (Code.region id ops true).wpIn (WF ρ) 0 P Q' a w := by
  obtain ⟨R, S, ⟨hrefl, htrans, hSr, hSt⟩, hdet⟩ := hv
  have hpre : Pre R R := ⟨hrefl, htrans, fun _ _ h => h, htrans⟩
  have hpreB : Pre (Both R S) R := ⟨fun a => ⟨hrefl a, fun u => hSr u a⟩, fun a b c h h' => ⟨htrans _ _ _ h.1 h'.1, fun u => hSt u _ _ _ (h.2 u) (h'.2 u)⟩, fun _ _ h => h.1, htrans⟩
  refine wpIn_region_any hm ?_
  have hdst : ∀ (o : Oper) d, o ∈ ops → o.dst = some d → d < n := fun o d ho hd => by
    have := List.all_eq_true.1 hops o (Array.mem_toList_iff.2 ho)
    simp only [Bool.and_eq_true, hd, decide_eq_true_eq] at this
    exact this.1
  have hgs : ∀ (o : Oper) j want, o ∈ ops → o.guard = some (j, want) → ∃ d, (ops[j]?).bind (·.dst) = some d ∧ d < n := fun o j want ho hg => by
    have := List.all_eq_true.1 hops o (Array.mem_toList_iff.2 ho)
    simp only [Bool.and_eq_true, hg, decide_eq_true_eq] at this
    obtain ⟨d, hd1⟩ := Option.isSome_iff_exists.1 this.2.1
    exact ⟨d, hd1, by have h2 := this.2.2; simpa [slotOf, hd1] using h2⟩
  have hopsd : ∀ s, opsOk n ops (ops.toList.drop s) = true := fun s => List.all_eq_true.2 fun o ho => List.all_eq_true.1 hops o (List.mem_of_mem_drop ho)
  obtain ⟨val, ψ, E', F', hfin, hget, hFF, hobs⟩ := detE_out hpreB _ _ _ _ hdet
  have hle := C.le
  have hlen : (thMask TS.flatten (ops.toList.take s)).length = s := by rw [thMask_length]; simp; omega
  have hlk : ∀ k, k ≤ s → lk (thMask TS.flatten (ops.toList.take s)) val (get E) k = lk ops.toList val (get E) k := fun k => by
    induction k with
    | zero => intro _; rfl
    | succ k ih =>
      intro hk
      have e : ((ops.toList.take s)[k]?).bind (·.dst) = (ops.toList[k]?).bind (·.dst) := by rw [List.getElem?_take, if_pos (by omega)]
      simp only [lk, ih (by omega), thMask_dst, e]
  rw [hlen] at hget hFF
  rw [hlk s (Nat.le_refl _)] at hget
  obtain ⟨Φs, hchain, hlast⟩ := thrAll_out _ _ _ hfin
  have hSt : ∀ k, StA (Both R S) R 0 k = R := fun k => by unfold StA; rw [beq_false (show (0 : Nat) ≠ k + 1 by omega)]; rfl
  have hDn : ∀ k, DnA (Both R S) R 0 k = Both R S := fun k => by unfold DnA; rw [beq_false (show (0 : Nat) ≠ k + 1 by omega)]; rfl
  have hobs' : ∀ k o, k < s → k ∉ TS.flatten → ops[k]? = some o → Ob P ops R (Both R S) w.drew (fun ch w' => Q (.panic ch) E ds w') o (lk ops.toList val (get E) k) (val k) (ψ k) := fun k o hk hkn ho => by
    have := hobs k o (by
      rw [thMask_get, List.getElem?_take, if_pos hk]
      have : TS.flatten.any (Nat.beq k) = false := by
        cases hb : TS.flatten.any (Nat.beq k) with
        | false => rfl
        | true => exact absurd (any_beq.1 hb) hkn
      simp [ho, this])
    rw [hlk k (by omega), hSt, hDn] at this
    exact this
  have hnd : ∀ k, k ∈ TS.flatten → ∀ w1, R w.drew w1 → ψ k w1 := fun k hk w1 hr => by
    have hks := O.lt k hk
    obtain ⟨o, ho⟩ : ∃ o, ops[k]? = some o := ⟨ops[k], by simp [show k < ops.size by omega]⟩
    have := hobs k _ (by
      rw [thMask_get, List.getElem?_take, if_pos hks, any_beq.2 hk]
      show (ops.toList[k]?).map _ = _
      simp [ho]; rfl)
    obtain ⟨_, hb⟩ := this
    cases hvk : val k with
    | none => rw [hvk] at hb; obtain ⟨⟨j, want, hg, _⟩, _⟩ := hb; cases hg
    | some c =>
      rw [hvk] at hb
      have hw := hb.2 w1 (by rw [hSt]; exact hr)
      exact hw.2.2
  have hX : ∀ ch w1 (a : Act) (listed : Array Bool) (val : Nat → Option Value) (ψ : Nat → World → Prop), Inv ops R R 0 w.drew n s val ψ (get E) ds listed a w1 → ∀ w2, Q (.panic ch) E ds w2 → Q' (.panic ch) a w2 := by
    intro ch w1 a' listed val ψ I w2 hx
    have hex : ∀ k, ∃ E1, get E1 = look ops val (get E) listed k ∧ ∀ t, t ∈ rs → get E t = get E1 t := fun k => by
      induction k with
      | zero => exact ⟨E, rfl, fun _ _ => rfl⟩
      | succ k ih =>
        obtain ⟨E1, h1, h2⟩ := ih
        by_cases hl : listed.getD k false = true
        · refine ⟨putO E1 ((ops[k]?).bind (·.dst)) (val k), by rw [get_putO, h1]; simp only [look, if_pos hl], fun t ht => ?_⟩
          rw [get_putO, h2 t ht]
          simp only [upd]
          rw [if_neg]
          intro he
          cases ho : ops[k]? with
          | none => rw [ho] at he; simp at he
          | some o =>
            rw [ho, Option.bind_some] at he
            exact hrs o (Array.mem_toList_iff.2 (Array.mem_of_getElem? ho)) t he ht
        · exact ⟨E1, by rw [h1]; simp only [look, if_neg hl], h2⟩
    obtain ⟨E1, h1, h2⟩ := hex s
    exact hq _ E1 _ ds _ ⟨I.asize, fun t => by rw [I.vals t, h1]⟩ I.defers (hp ch E E1 ds w2 h2 hx)
  have hI0 : Inv ops R R 0 w.drew n s val (fun k => if k ∈ TS.flatten then fun _ => True else ψ k) (get E) ds (Array.replicate ops.size false) a w.drew := by
    refine ⟨by simp, fun i hi hl => ?_, ha.size, fun t => ?_, hd, hrefl _, fun _ _ _ => hrefl _, fun k hk hl => ?_, fun k hk _ => ?_⟩
    · simp [Array.getD_eq_getD_getElem?, hi] at hl
    · have hz : ∀ k, look ops val (get E) (Array.replicate ops.size false) k = get E := fun k => by
        induction k with
        | zero => rfl
        | succ k ih =>
          simp only [look, ih]
          rw [if_neg]
          simp only [Array.getD_eq_getD_getElem?, Array.getElem?_replicate]
          split <;> simp
      rw [hz]; exact ha.val t
    · simp only [Array.getD_eq_getD_getElem?, Array.getElem?_replicate] at hl
      split at hl <;> simp at hl
    · simp only [Array.getD_eq_getD_getElem?, Array.getElem?_replicate]
      split <;> simp
  have hun : ops.size = un (Array.replicate ops.size false) ops.size := by
    have : ∀ m, un (Array.replicate ops.size false) m = m := fun m => by
      induction m with
      | zero => rfl
      | succ m ih =>
        simp only [un, ih]
        rw [if_neg]
        simp only [Array.getD_eq_getD_getElem?, Array.getElem?_replicate]
        split <;> simp
    exact (this _).symm
  have hqL : ∀ e E' a' ds' w', Agree n E' a' → a'.defers = ds' → Q e E' ds' w' → QL ((lagOf ops s TS).map (slotOf ops)) Q' e a' w' := fun e E' a' ds' w' hA hD hQ => by
    refine ⟨hq _ _ _ _ _ hA hD hQ, fun ch he a'' hl => ?_⟩
    subst he
    refine hq _ (havoc ((lagOf ops s TS).map (slotOf ops)) (fun t => a''.tmps.getD t undef) E') a'' ds' w' ⟨hl.1.trans hA.size, fun t => ?_⟩ (hl.2.1.trans hD) (hp ch E' _ ds' w' (fun t ht => ?_) hQ)
    · rw [get_havoc]
      by_cases hm : t ∈ (lagOf ops s TS).map (slotOf ops)
      · rw [if_pos hm]
      · rw [if_neg hm, hl.2.2 t hm]; exact hA.val t
    · rw [get_havoc, if_neg]
      intro hm
      obtain ⟨k, hk, rfl⟩ := List.mem_map.1 hm
      have hkf := (lagOf_mem hk).1.1
      have hkz : k < ops.size := by have := O.lt k hkf; have := C.le; omega
      obtain ⟨o, ho⟩ : ∃ o, ops[k]? = some o := ⟨ops[k], by simp [hkz]⟩
      exact hrs o (Array.mem_toList_iff.2 (Array.mem_of_getElem? ho)) _ (by have := O.dst k hkf (isExt_dst (lagOf_mem hk).1.2); simpa [dstOf, ho] using this) ht
  refine thr_any (R := R) (S := S) (w0 := w.drew) (X := fun ch w' => Q (.panic ch) E ds w') (TS := TS) (Φs := Φs) (val0 := val) (ψ := fun k => if k ∈ TS.flatten then fun _ => True else ψ k) (g := get E) (ds := ds) (Q' := Q') C O (fun j hj => lagOf_mem hj) hpre hdst hgs ⟨E, rfl⟩ hX hSr
    (fun k o hk hkn ho => by simp only [if_neg hkn]; exact hobs' k o hk hkn ho) (fun k hk => by simp only [if_pos hk]) ?_ ops.size _ a _ val hI0 (fun _ _ => rfl) (fun i T hi => ?_) hun
  · intro val' a' w1 hsz hvals hdf hr hpsi hv0 hΦ
    have hll : ∀ t, (∀ k, k ∈ TS.flatten → hasDst ops k = true → slotOf ops k ≠ t) → lk ops.toList val' (get E) s t = lk ops.toList val (get E) s t := fun t ht => by
      by_cases hw : ∃ j, j < s ∧ dstOf ops j = some t
      · obtain ⟨j, hjs, hdj⟩ := hw
        rw [lk_hit O hdj s hjs (Nat.le_refl _), lk_hit O hdj s hjs (Nat.le_refl _), hv0 j fun hj => ht j hj (by show (dstOf ops j).isSome = true; rw [hdj]; rfl) (by
          show (dstOf ops j).getD 0 = t
          rw [hdj]; rfl)]
      · have hno : ∀ j, j < s → dstOf ops j ≠ some t := fun j hj h => hw ⟨j, hj, h⟩
        rw [lk_miss s hno, lk_miss s hno]
    refine vcOps_sound hqL _ _ _ _ _ (.inr (C.nodef _)) (hopsd s) ⟨hsz, fun t => ?_⟩ hdf (hlast (lk ops.toList val' (get E) s) w1 hr (hFF w1 trivial fun k hk => ?_) trivial fun i T hi => ?_)
    · rw [hvals t, get_havoc]
      by_cases ht : t ∈ (TS.flatten.filter (hasDst ops)).map (slotOf ops)
      · rw [if_pos ht]
      · rw [if_neg ht, hget]
        exact hll t fun k hk hh e => ht (List.mem_map.2 ⟨k, List.mem_filter.2 ⟨hk, hh⟩, e⟩)
    · have := hpsi k hk
      by_cases hkn : k ∈ TS.flatten
      · exact hnd k hkn w1 hr
      · simp only [if_neg hkn] at this; exact this
    · have e : ((T.filter (hasDst ops)).map fun k => lk ops.toList val' (get E) s (slotOf ops k)) = (T.filter (hasDst ops)).map fun k => (val' k).getD undef := List.map_congr_left fun k hk => by
        have hkf : k ∈ TS.flatten := List.mem_flatten.2 ⟨T, List.mem_of_getElem? hi, (List.mem_filter.1 hk).1⟩
        exact lk_hit O (O.dst k hkf (List.mem_filter.1 hk).2) s (O.lt k hkf) (Nat.le_refl _)
      rw [e]
      exact hΦ i T hi
  · obtain ⟨Θ, g0, g1, g2⟩ := hchain i T hi
    rw [Nat.zero_add] at g1 g2
    refine ⟨[], T, E', Θ, ⟨by simp, fun k hk => by simp at hk, fun k hk => ?_, fun k hk => by simp at hk, fun t _ => by rw [hget], g1, g0, g2⟩⟩
    simp only [Array.getD_eq_getD_getElem?, Array.getElem?_replicate]
    split <;> simp
theorem agree_par {n : Nat} {E : Env} {a : Act} (h : Agree n E a) {ps : Array Tmp} {xs : List Value} (hl : xs.length = ps.size) (hp : ∀ p ∈ ps.toList, p < n) :
    Agree n (parE ps xs E) { tmps := (ps.zip xs.toArray).foldl (fun tmps (t, v) => tmps.setIfInBounds t v) a.tmps, defers := [] } := by
  have key : ∀ (l : List Tmp) (ys : List Value) (i : Nat) (E : Env) (tm : Array Value), (∀ k, k < ys.length → ys[k]? = xs[i + k]?) → ys.length = l.length → (∀ p ∈ l, p < n) → Agree n E { tmps := tm, defers := [] } →
      Agree n (List.rec (motive := fun _ => Nat → Env → Env) (fun _ E => E) (fun p _ ih i E => ih (Nat.succ i) ((p, some (nth xs i)) :: E)) l i E) { tmps := (l.zip ys).foldl (fun tmps (t, v) => tmps.setIfInBounds t v) tm, defers := [] } := by
    intro l
    induction l with
    | nil => intro ys i E tm _ _ _ ha; exact ha
    | cons p l ih =>
      intro ys i E tm hx hl hp ha
      match ys, hl with
      | y :: ys, hl =>
        have h0 : nth xs i = y := by
          have := hx 0 (by simp)
          simp only [List.getElem?_cons_zero, Nat.add_zero] at this
          simp [nth, ← this]
        refine ih ys (i + 1) _ _ (fun k hk => ?_) (by simpa using hl) (fun q hq => hp q (List.mem_cons_of_mem _ hq)) ?_
        · have := hx (k + 1) (by simpa using hk)
          simp only [List.getElem?_cons_succ] at this
          rw [this]; congr 1; omega
        · rw [h0]
          exact ha.putO (some p) (fun t ht => by cases ht; exact hp p (List.mem_cons_self ..)) (some y)
  have := key ps.toList xs 0 E a.tmps (fun k _ => by rw [Nat.zero_add]) (by simpa using hl) hp ⟨h.size, h.val⟩
  rw [← Array.foldl_toList, Array.toList_zip]
  exact this
theorem vc_sound {P : Program} {n : Nat} {rs : List Nat} {dr : List (Nat × Nat × Bool × Nat)} {vars : List Nat} (hm : P.follows .mixedOrders = true) : ∀ (c : Code) (ρ : Option Nat) (E : Env) (a : Act) (ds : List Deferred) (w : World) (Q : Post) (Q' : Exit → Act → World → Prop), (ρ = none ∨ noDefer c = true) →
    codeOk n rs dr c = true → (∀ ch E E' ds w, (∀ t, t ∈ rs → get E t = get E' t) → Q (.panic ch) E ds w → Q (.panic ch) E' ds w) → Agree n E a → a.defers = ds → (∀ e E' a' ds' w', Agree n E' a' → a'.defers = ds' → Q e E' ds' w' → Q' e a' w') → vc P dr vars c Q E ds w → c.wpIn (WF ρ) 0 P Q' a w
  | .skip, ρ, E, a, ds, w, Q, Q', _, _, _, ha, hd, hq, hv => wpIn_skip (hq _ _ _ _ _ ha hd hv)
  | .label _, ρ, E, a, ds, w, Q, Q', _, _, _, ha, hd, hq, hv => wpIn_label (hq _ _ _ _ _ ha hd hv)
  | .exit i, ρ, E, a, ds, w, Q, Q', _, _, _, ha, hd, hq, hv => wpIn_exit (hq _ _ _ _ _ ha hd hv)
  | .ret, ρ, E, a, ds, w, Q, Q', _, _, _, ha, hd, hq, hv => wpIn_ret (hq _ _ _ _ _ ha hd hv)
  | .region _ ops false, ρ, E, a, ds, w, Q, Q', okn, ok, hp, ha, hd, hq, hv => wpIn_region_list (vcOps_sound hq _ _ _ _ _ okn ok ha hd hv)
  | .seq x y, ρ, E, a, ds, w, Q, Q', okn, ok, hp, ha, hd, hq, hv => by
    have okx : ρ = none ∨ noDefer x = true := okn.imp id fun h => by simp only [noDefer, Bool.and_eq_true] at h; exact h.1
    have oky : ρ = none ∨ noDefer y = true := okn.imp id fun h => by simp only [noDefer, Bool.and_eq_true] at h; exact h.2
    simp only [codeOk, Bool.and_eq_true] at ok
    simp only [vc_seq, vcSeq, tif_eq] at hv
    refine wpIn_seq ?_
    split at hv
    · have h1 := hv (fun hs w' => ∀ h, (lives vars x y).map h = hs → vc P dr vars y Q (havoc (dead (lives vars x y) x) h E) ds w') (fun hs w' hB => hB)
      rename_i hc
      simp only [Bool.and_eq_true] at hc
      have h2 := vc_frame (Q' := fun e E' ds' w' => (e = .normal → ds' = ds ∧ Fr (dsts x) E E') ∧ thenE (fun E' _ w' => ∀ h, (lives vars x y).map h = (lives vars x y).map (get E') → vc P dr vars y Q (havoc (dead (lives vars x y) x) h E) ds w') Q e E' ds' w')
        x E ds w _ ok.1 (fun e E' ds' w' hf hn hq => ⟨fun _ => ⟨hn hc.2, hf⟩, hq⟩) h1
      refine vc_sound hm x _ _ _ _ _ _ _ okx ok.1 (fun ch E1 E2 ds' w' he hq => ⟨fun h => (by cases h), hp ch E1 E2 ds' w' he hq.2⟩) ha hd (fun e E' a' ds' w' ha' hd' hq' => ?_) h2
      obtain ⟨hnf, hq'⟩ := hq'
      cases e with
      | normal =>
        obtain ⟨rfl, hf⟩ := hnf rfl
        refine vc_sound hm y _ _ _ _ _ _ _ oky ok.2 hp (ha'.congr fun t => ?_) hd' hq (hq' (get E') rfl)
        rw [get_havoc]
        by_cases ht : t ∈ dead (lives vars x y) x
        · rw [if_pos ht]
        · rw [if_neg ht]
          exact hf t fun hh => ht (mem_dead.2 (.inr hh))
      | _ => exact hq _ _ _ _ _ ha' hd' hq'
    · refine vc_sound hm x _ _ _ _ _ (thenE (fun E' ds' w' => vc P dr vars y Q E' ds' w') Q) _ okx ok.1 (fun ch E1 E2 ds' w' he hq => hp ch E1 E2 ds' w' he hq) ha hd (fun e E' a' ds' w' ha' hd' hq' => ?_) hv
      cases e with
      | normal => exact vc_sound hm y _ _ _ _ _ _ _ oky ok.2 hp ha' hd' hq hq'
      | _ => exact hq _ _ _ _ _ ha' hd' hq'
  | .cond c x y, ρ, E, a, ds, w, Q, Q', okn, ok, hp, ha, hd, hq, hv => by
    have okx : ρ = none ∨ noDefer x = true := okn.imp id fun h => by simp only [noDefer, Bool.and_eq_true] at h; exact h.1
    have oky : ρ = none ∨ noDefer y = true := okn.imp id fun h => by simp only [noDefer, Bool.and_eq_true] at h; exact h.2
    simp only [codeOk, Bool.and_eq_true] at ok
    obtain ⟨t, ht, hif⟩ := Br_cases hv
    refine wpIn_cond (t := t) (by rw [ha.eval]; exact ht) ?_
    cases t with
    | true => exact vc_sound hm x _ _ _ _ _ _ _ okx ok.1 hp ha hd hq hif
    | false => exact vc_sound hm y _ _ _ _ _ _ _ oky ok.2 hp ha hd hq hif
  | .block id c, ρ, E, a, ds, w, Q, Q', okn, ok, hp, ha, hd, hq, hv => by
    simp only [codeOk] at ok
    refine wpIn_block (vc_sound hm c _ _ _ _ _ (inBlockE id Q) _ okn ok (fun ch E1 E2 ds' w' he hq => hp ch E1 E2 ds' w' he hq) ha hd (fun e E' a' ds' w' ha' hd' hq' => ?_) hv)
    cases e with
    | exit i =>
      simp only [inBlockE, tif_beq, Exit.inBlock] at hq' ⊢
      split
      · rename_i hi; rw [if_pos hi] at hq'; exact hq _ _ _ _ _ ha' hd' hq'
      · rename_i hi; rw [if_neg hi] at hq'; exact hq _ _ _ _ _ ha' hd' hq'
    | _ => exact hq _ _ _ _ _ ha' hd' hq'
  | .loop c, ρ, E, a, ds, w, Q, Q', okn, ok, hp, ha, hd, hq, hv => by
    simp only [codeOk, Bool.and_eq_true] at ok
    obtain ⟨I, μ, h0, hr⟩ := hv
    generalize hL : (vars.filter fun t => (dsts c).contains t) = L at *
    have hsub : ∀ t, t ∈ L → t ∈ dsts c := fun t ht => by rw [← hL, List.mem_filter] at ht; simpa using ht.2
    refine wpIn_loop (fun a' w' => ∃ E', Agree n E' a' ∧ a'.defers = ds ∧ Fr (dsts c) E E' ∧ I (L.map (get E')) w') (fun a' w' => μ (L.map fun t => a'.tmps.getD t undef) w') ⟨E, ha, hd, Fr.refl _ _, h0⟩ ?_
    rintro a1 w1 ⟨E1, ha1, hd1, hf1, hI1⟩
    have h1 := hr (get E1) w1 hI1
    have hag : Agree n (havoc (dead L c) (get E1) E) a1 := ha1.congr fun t => by
      rw [get_havoc]
      by_cases ht : t ∈ dead L c
      · rw [if_pos ht]
      · rw [if_neg ht]
        exact hf1 t fun hh => ht (mem_dead.2 (.inr hh))
    have h2 := vc_frame (Q' := fun e E' ds' w' => (e = .normal → ds' = ds ∧ Fr (dsts c) (havoc (dead L c) (get E1) E) E') ∧ thenE (fun E' _ w'' => (fun hs w'' => I hs w'' ∧ μ hs w'' < μ (L.map (get E1)) w1) (L.map (get E')) w'') Q e E' ds' w')
        c _ ds w1 _ ok.1 (fun e E' ds' w' hf hn hq => ⟨fun _ => ⟨hn ok.2, hf⟩, hq⟩) h1
    refine vc_sound hm c _ _ _ _ _ _ _ okn ok.1 (fun ch E1 E2 ds' w' he hq => ⟨fun h => (by cases h), hp ch E1 E2 ds' w' he hq.2⟩) hag hd1 (fun e E' a' ds' w' ha' hd' hq' => ?_) h2
    obtain ⟨hnf, hq'⟩ := hq'
    cases e with
    | normal =>
      obtain ⟨rfl, hf⟩ := hnf rfl
      obtain ⟨hI, hμ⟩ := hq'
      refine ⟨⟨E', ha', hd', ?_, hI⟩, ?_⟩
      · intro t ht
        rw [hf t ht, get_havoc, if_neg]
        intro hh
        rcases mem_dead.1 hh with hl | hl
        · exact ht (hsub t hl)
        · exact ht hl
      · rw [List.map_congr_left (fun t _ => ha'.val t), List.map_congr_left (fun t _ => ha1.val t)]
        exact hμ
    | _ => exact hq _ _ _ _ _ ha' hd' hq'
  | .region id ops true, ρ, E, a, ds, w, Q, Q', okn, ok, hp, ha, hd, hq, hv => by
    have hv : vcDraw P ops (tailAt dr id ops.size) Q E ds w := hv
    unfold vcDraw at hv
    cases hth : Nat.ble 1000 (tailAt dr id ops.size).2.2 with
    | true =>
      simp only [codeOk, hth, cond_true, Bool.and_eq_true] at ok
      rw [hth] at hv
      obtain ⟨C, hops, hrs⟩ := checks_of (lagOf_lt (thrOk_of ok.2)) ok.1
      exact thr_sound hm C (thrOk_of ok.2) hops hrs hp ha hd hq hv
    | false =>
    rw [hth] at hv
    simp only [codeOk, hth, cond_false, Bool.and_eq_true] at ok
    obtain ⟨ok, oknd⟩ := ok
    obtain ⟨C, hops, hrs⟩ := checks_of (fun j hj => by cases hj) ok
    obtain ⟨Rs, Rb, hpre, hdet⟩ := hv
    refine wpIn_region_any hm ?_
    have hdst : ∀ (o : Oper) d, o ∈ ops → o.dst = some d → d < n := fun o d ho hd => by
      have := List.all_eq_true.1 hops o (Array.mem_toList_iff.2 ho)
      simp only [Bool.and_eq_true, hd, decide_eq_true_eq] at this
      exact this.1
    have hgs : ∀ (o : Oper) j want, o ∈ ops → o.guard = some (j, want) → ∃ d, (ops[j]?).bind (·.dst) = some d ∧ d < n := fun o j want ho hg => by
      have := List.all_eq_true.1 hops o (Array.mem_toList_iff.2 ho)
      simp only [Bool.and_eq_true, hg, decide_eq_true_eq] at this
      obtain ⟨d, hd1⟩ := Option.isSome_iff_exists.1 this.2.1
      exact ⟨d, hd1, by have h2 := this.2.2; simpa [slotOf, hd1] using h2⟩
    have hopsd : ∀ s, opsOk n ops (ops.toList.drop s) = true := fun s => List.all_eq_true.2 fun o ho => List.all_eq_true.1 hops o (List.mem_of_mem_drop ho)
    obtain ⟨val, ψ, E', F', hfin, hget, hFF, hobs⟩ := detE_out hpre _ _ _ _ hdet
    generalize hs : tailAt dr id ops.size = sn at *
    obtain ⟨s, nd, mv⟩ := sn
    have hle := C.le
    have hsle : s ≤ ops.size := by cases nd <;> simp only [cut, cond_true, cond_false] at hle <;> omega
    have hlen : (ops.toList.take s).length = s := by simp; omega
    have htk : ∀ k, k < s → (ops.toList.take s)[k]? = ops.toList[k]? := fun k hk => by rw [List.getElem?_take, if_pos hk]
    have hlk : ∀ k, k ≤ s → lk (ops.toList.take s) val (get E) k = lk ops.toList val (get E) k := fun k => by
      induction k with
      | zero => intro _; rfl
      | succ k ih => intro hk; simp only [lk, ih (by omega), htk k (by omega)]
    simp only at hfin hget hFF hobs
    rw [hlen, hlk s (Nat.le_refl _)] at hget
    rw [hlen] at hFF
    have hX : ∀ ch w1 (a : Act) (listed : Array Bool) (val : Nat → Option Value) (ψ : Nat → World → Prop), Inv ops Rs Rb mv w.drew n (cut (s, nd, mv)) val ψ (get E) ds listed a w1 → ∀ w2, Q (.panic ch) E ds w2 → Q' (.panic ch) a w2 := by
      intro ch w1 a' listed val ψ I w2 hx
      have hex : ∀ k, ∃ E1, get E1 = look ops val (get E) listed k ∧ ∀ t, t ∈ rs → get E t = get E1 t := fun k => by
        induction k with
        | zero => exact ⟨E, rfl, fun _ _ => rfl⟩
        | succ k ih =>
          obtain ⟨E1, h1, h2⟩ := ih
          by_cases hl : listed.getD k false = true
          · refine ⟨putO E1 ((ops[k]?).bind (·.dst)) (val k), by rw [get_putO, h1]; simp only [look, if_pos hl], fun t ht => ?_⟩
            rw [get_putO, h2 t ht]
            simp only [upd]
            rw [if_neg]
            intro he
            cases ho : ops[k]? with
            | none => rw [ho] at he; simp at he
            | some o =>
              rw [ho, Option.bind_some] at he
              exact hrs o (Array.mem_toList_iff.2 (Array.mem_of_getElem? ho)) t he ht
          · exact ⟨E1, by rw [h1]; simp only [look, if_neg hl], h2⟩
      obtain ⟨E1, h1, h2⟩ := hex (cut (s, nd, mv))
      exact hq _ E1 _ ds _ ⟨I.asize, fun t => by rw [I.vals t, h1]⟩ I.defers (hp ch E E1 ds w2 h2 hx)
    have hI0 : Inv ops Rs Rb mv w.drew n (cut (s, nd, mv)) val ψ (get E) ds (Array.replicate ops.size false) a w.drew := by
      refine ⟨by simp, fun i hi hl => ?_, ha.size, fun t => ?_, hd, hpre.sub _ _ (hpre.rs _), fun _ _ _ => hpre.rs _, fun k hk hl => ?_, fun k hk _ => ?_⟩
      · simp [Array.getD_eq_getD_getElem?, hi] at hl
      · have hz : ∀ k, look ops val (get E) (Array.replicate ops.size false) k = get E := fun k => by
          induction k with
          | zero => rfl
          | succ k ih =>
            simp only [look, ih]
            rw [if_neg]
            simp only [Array.getD_eq_getD_getElem?, Array.getElem?_replicate]
            split <;> simp
        rw [hz]; exact ha.val t
      · simp only [Array.getD_eq_getD_getElem?, Array.getElem?_replicate] at hl
        split at hl <;> simp at hl
      · simp only [Array.getD_eq_getD_getElem?, Array.getElem?_replicate]
        split <;> simp
    have hun : ops.size = un (Array.replicate ops.size false) ops.size := by
      have : ∀ m, un (Array.replicate ops.size false) m = m := fun m => by
        induction m with
        | zero => rfl
        | succ m ih =>
          simp only [un, ih]
          rw [if_neg]
          simp only [Array.getD_eq_getD_getElem?, Array.getElem?_replicate]
          split <;> simp
      exact (this _).symm
    have hobs' : ∀ k o, k < s → ops[k]? = some o → Ob P ops (StA Rs Rb mv k) (DnA Rs Rb mv k) w.drew (fun ch w' => Q (.panic ch) E ds w') o (lk ops.toList val (get E) k) (val k) (ψ k) := fun k o hk ho => by
      have := hobs k o (by rw [htk k hk]; simpa using ho)
      rw [hlk k (by omega)] at this
      exact this
    cases nd with
    | false =>
      simp only [cut, cond_false] at C hX hI0
      simp only [drawFin, tif_eq, Bool.false_eq_true, if_false] at hfin
      refine draw_any (Rs := Rs) (Rb := Rb) (mv := mv) (w0 := w.drew) (X := fun ch w' => Q (.panic ch) E ds w') (n := n) (s := s) (d := s) (g := get E) (ds := ds) (φ := fun _ _ => True) C (by omega) hpre hdst hgs ⟨E, rfl⟩ hX (fun _ _ _ _ _ => trivial)
        ops.size _ a _ val (fun k => if k = s then fun _ => True else ψ k) ?_ (fun k o hk hks ho => by simp only [if_neg hks]; exact hobs' k o hk ho) (fun x y _ _ => by simp) (fun h => by omega) (fun _ a' w1 hsz hvals hdf hr hpsi => ?_) hun
      · exact ⟨hI0.size, hI0.down, hI0.asize, hI0.vals, hI0.defers, hI0.rel, hI0.relm, fun k hk hl => by simp only [if_neg (show ¬ k = s by omega)]; exact hI0.facts k hk hl, hI0.lo⟩
      · exact vcOps_sound hq _ _ _ _ _ (.inr (C.nodef _)) (hopsd s) ⟨hsz, fun t => by rw [hvals t, hget]⟩ hdf (hfin w1 hr (hFF w1 trivial fun k hk => by have := hpsi k hk; simp only [if_neg (show ¬ k = s by omega)] at this; exact this))
    | true =>
      simp only [cut, cond_true] at C hX hI0
      simp only [drawFin, tif_eq, if_true] at hfin
      simp only [cond_true, Bool.and_eq_true, decide_eq_true_eq] at oknd
      cases ho : ops[s]? with
      | none => simp only [ho] at hfin
      | some o =>
        simp only [ho] at hfin oknd
        obtain ⟨φ, h4, h5, h6⟩ := hfin
        refine draw_any (Rs := Rs) (Rb := Rb) (mv := mv) (w0 := w.drew) (X := fun ch w' => Q (.panic ch) E ds w') (n := n) (s := s + 1) (d := s) (g := get E) (ds := ds) (φ := φ) C (by omega) hpre hdst hgs ⟨E, rfl⟩ hX h4
          ops.size _ a _ val (fun k => if k = s then fun _ => True else ψ k) ?_ (fun k o' hk hks ho' => by simp only [if_neg hks]; exact hobs' k o' (by omega) ho') (fun x y _ _ => by simp) (fun _ _ => ⟨fun o' ho' => ?_, fun v a' w1 hsz hvals hdf hr hpsi => ?_⟩)
          (fun h => by have := h (by omega); simp [Array.getD_eq_getD_getElem?, oknd.1] at this) hun
        · exact ⟨hI0.size, hI0.down, hI0.asize, hI0.vals, hI0.defers, hI0.rel, hI0.relm, fun k hk hl => by
            by_cases hks : k = s
            · simp only [if_pos hks]
            · simp only [if_neg hks]; exact hI0.facts k hk hl, hI0.lo⟩
        · rw [ho] at ho'; cases ho'
          refine ⟨by simpa using oknd.2, fun w1 hr => ?_⟩
          have := h5 w1 hr
          rw [ev_evF, hget] at this
          exact this
        · have h7 := h6 v w1 hr ⟨hFF w1 trivial fun k hk => by have := hpsi k (by omega); simp only [if_neg (show ¬ k = s by omega)] at this; exact this, by have := hpsi s (by omega); simpa using this⟩
          rw [ihPut_eq] at h7
          refine vcOps_sound hq _ _ _ _ _ (.inr (C.nodef _)) (hopsd (s + 1)) ⟨hsz, fun t => ?_⟩ hdf h7
          rw [hvals t, get_putO, hget]
          show upd (lk ops.toList (fun k => if k = s then some v else val k) (get E) s) ((ops.toList[s]?).bind (·.dst)) (if s = s then some v else val s) t = _
          rw [if_pos rfl, lk_congr (val' := val) s fun j hj => by rw [if_neg (by omega)]]
          simp [ho]
  | .rangeFunc g ps x y, ρ, E, a, ds, w, Q, Q', okn, ok, hp, ha, hd, hq, hv => by
    obtain rfl : ρ = none := by
      rcases okn with h | h
      · exact h
      · simp [noDefer] at h
    simp only [codeOk, Bool.and_eq_true, List.all_eq_true, decide_eq_true_eq] at ok
    obtain ⟨⟨⟨⟨ok1, ok2⟩, ok3⟩, ok4⟩, ok5⟩ := ok
    obtain ⟨gf, lb, hg, hgo, hall⟩ := hv
    refine wpIn_rangeFunc fun fn _ => ?_
    obtain ⟨rec, hrec⟩ : ∃ rec : LoopState → Option Code → Loop, rec = fun st pe => { state := st, pending := pe, fn, tmps := a.tmps, params := ps, assign := x, body := y, defers := w.heap.size } := ⟨_, rfl⟩
    have hW := hall (rec .ready none)
    generalize hW1 : (w.alloc (.deferred (some []))).alloc (.loop (rec .ready none)) = W1 at hW
    have hL1 : W1.heap[w.heap.size + 1]? = some (.loop (rec .ready none)) := by
      rw [← hW1]; have := World.alloc_heap_new (w.alloc (.deferred (some []))) (.loop (rec .ready none)); rwa [World.size_alloc] at this
    have hK1 : W1.heap[w.heap.size]? = some (.deferred (some [])) := by
      rw [← hW1]; exact (Go.RowKit.Below.heap_alloc _ _ _ (by simp)).trans (World.alloc_heap_new w _)
    have hev : a.eval g = .func (.func gf) #[] lb := by rw [ha.eval]; exact hg
    refine ⟨w.heap.size + 1, [{ target := .collected w.heap.size, args := #[] }], W1, { target := .fn (.func gf) lb, args := #[.func (.yield (w.heap.size + 1)) #[] #[]] }, W1, gf,
      #[.func (.yield (w.heap.size + 1)) #[] #[]] ++ lb, W1, ?_, ?_, fun _ _ => trivial, ?_, fun _ => by contradiction, ?_⟩
    · rw [← hW1, hrec]; exact run_enterLoop_outer _ _ _ _ _
    · simp only [resolve, hev]
      simp [go_sem]
    · simp [invoke, go_sem, run_goes hgo]
    · refine CallsIn.mono (calls_wf.2 (hW (fun W => W.heap[w.heap.size]? = some (.deferred (some [])) ∧ W.heap[w.heap.size + 1]? = some (.loop (rec .ready none)))
        (fun e W => (e = .ret ∨ ∃ i, e = .exit i) ∧ W.heap[w.heap.size]? = some (.deferred (some [])) ∧ W.heap[w.heap.size + 1]? = some (.loop (rec .done (jumpOf e))))
        ⟨hK1, hL1⟩ (fun A B h hk => ⟨hk.1.trans h.1, hk.2.trans h.2⟩) (fun e A B h hk => ⟨h.1, hk.1.trans h.2.1, hk.2.trans h.2.2⟩) ?_)) ?_
      · rintro xs W K X hxs ⟨hk, hl⟩ hrd
        have hy := run_yield (P := P) (args := xs.toArray) hl (by rw [hrec]; simpa using hxs)
        have hcv : (do let d ← Deferred.ofValue (.func (.yield (w.heap.size + 1)) #[] #[]) xs.toArray; invoke d.target d.args : Sem Next).run P W = (Instr.yield (w.heap.size + 1) xs.toArray).run P W := by
          simp [Deferred.ofValue, invoke]
        unfold CallV Do
        rw [hcv, hy]
        rw [hrec]
        simp only
        refine roundIn_of_wpIn (F := WF none) trivial ?_
        show x.wpIn (WF (some (w.heap.size + 1))) 0 P _ _ W
        have hlt : w.heap.size + 1 < W.heap.size := (Array.getElem?_eq_some_iff.1 hl).1
        refine vc_sound hm x (some (w.heap.size + 1)) (parE ps xs E) _ [] W _ _ (.inr ok3) ok1 ?_ (agree_par ha hxs ok5) rfl ?_ hrd
        · intro ch E1 E2 ds' w' _ h; exact h
        · intro e E1 a1 ds1 W2 ha1 hd1 he
          cases e with
          | normal =>
            obtain ⟨hkeep, hbody⟩ := he
            have hk2 := hkeep.1.trans hk
            have hl2 := hkeep.2.trans hl
            have hlt2 : w.heap.size + 1 < W2.heap.size := (Array.getElem?_eq_some_iff.1 hl2).1
            refine ⟨_, run_beginRound hl2 (by rw [hrec]), ?_⟩
            refine vc_sound hm y (some (w.heap.size + 1)) E1 a1 ds1 _ _ _ (.inr ok4) ok2 ?_ ha1 hd1 ?_ (hbody _)
            · intro ch E1 E2 ds' w' _ h; exact h
            · intro e E3 a3 ds3 W3 ha3 hd3 he
              have fin : ∀ jump : Option Code, KeepL w.heap.size (W2.putObj (w.heap.size + 1) (.loop { rec .ready none with state := .busy })) W3 →
                  (Instr.endRound (w.heap.size + 1) jump).run P W3 = .ok (.bool jump.isNone) (W3.putObj (w.heap.size + 1) (.loop (rec (if jump.isNone then .ready else .done) jump))) ∧
                  (W3.putObj (w.heap.size + 1) (.loop (rec (if jump.isNone then .ready else .done) jump))).heap[w.heap.size + 1]? = some (.loop (rec (if jump.isNone then .ready else .done) jump)) ∧
                  (W3.putObj (w.heap.size + 1) (.loop (rec (if jump.isNone then .ready else .done) jump))).heap[w.heap.size]? = some (.deferred (some [])) := fun jump hk3 => by
                have hl3 : W3.heap[w.heap.size + 1]? = some (.loop { rec .ready none with state := .busy }) := hk3.2.trans (World.putObj_heap_same hlt2)
                have hk3' : W3.heap[w.heap.size]? = some (.deferred (some [])) := hk3.1.trans ((World.putObj_heap_other (by omega)).trans hk2)
                have := run_endRound (P := P) jump hl3
                rw [hrec] at this ⊢
                exact ⟨this, World.putObj_heap_same (Array.getElem?_eq_some_iff.1 hl3).1, (World.putObj_heap_other (by omega)).trans hk3'⟩
              cases e with
              | normal =>
                obtain ⟨hk3, hj⟩ := he
                obtain ⟨hr, hl4, hk4⟩ := fin none hk3
                exact ⟨_, _, hr, hj _ ⟨hk4, hl4⟩⟩
              | ret =>
                obtain ⟨hk3, hj⟩ := he
                obtain ⟨hr, hl4, hk4⟩ := fin (some .ret) hk3
                exact ⟨_, _, hr, hj _ ⟨.inl rfl, hk4, hl4⟩⟩
              | exit i =>
                cases hin : (outsOf y).any (Nat.beq i) with
                | false => simp only [roundE, hin, tif_eq, Bool.false_eq_true, if_false] at he
                | true =>
                simp only [roundE, hin, tif_eq, if_true] at he
                obtain ⟨hk3, hj⟩ := he
                obtain ⟨hr, hl4, hk4⟩ := fin (some (.exit i)) hk3
                exact ⟨_, _, hr, hj _ ⟨.inr ⟨i, rfl⟩, hk4, hl4⟩⟩
              | _ => exact he.elim
          | _ => exact he.elim
      · rintro e W2 he
        cases e with
        | returned v =>
          rcases he with ⟨⟨hk, hl⟩, hfin⟩ | ⟨⟨_, hk, hl⟩, hfin⟩ | ⟨p, hp, ⟨_, hk, hl⟩, hfin⟩
          · have := run_endLoop (P := P) hl (by rw [hrec]; simp)
            rw [hrec] at this
            exact ⟨none, _, this, hq _ _ _ _ _ (ha.defers _) (by rw [← hd]; rfl) (hfin _ ((World.putObj_heap_other (by omega)).trans hk))⟩
          · have := run_endLoop (P := P) hl (by rw [hrec]; simp)
            rw [hrec] at this
            have hq2 := hq _ _ _ _ _ (ha.defers _) (by rw [← hd]) (hfin (.loop (rec .exhausted (some .ret))) ((World.putObj_heap_other (by omega)).trans hk))
            refine ⟨_, _, this, ?_⟩
            rw [hrec] at hq2
            exact wpIn_ret hq2
          · obtain ⟨i, _, rfl⟩ := List.mem_map.1 hp
            have := run_endLoop (P := P) hl (by rw [hrec]; simp)
            rw [hrec] at this
            have hq2 := hq _ _ _ _ _ (ha.defers _) (by rw [← hd]) (hfin (.loop (rec .exhausted (some (.exit i)))) ((World.putObj_heap_other (by omega)).trans hk))
            refine ⟨_, _, this, ?_⟩
            rw [hrec] at hq2
            exact wpIn_exit hq2
        | panicked ch => exact he.elim
        | outgrown => exact he.elim
  | .scope _, _, _, _, _, _, _, _, _, ok, _, _, _, _, _ => by simp [codeOk] at ok
  | .goto _, _, _, _, _, _, _, _, _, ok, _, _, _, _, _ => by simp [codeOk] at ok
  | .refuse _, _, _, _, _, _, _, _, _, ok, _, _, _, _, _ => by simp [codeOk] at ok

inductive RV where
  | tmp (v : Value)
  | cell (a : Value) (t : TypeId)
noncomputable def rvs (rs : Array ResultVar) (E : Env) : List RV := rs.toList.map fun
  | .tmp t => .tmp (get E t)
  | .cell a t => .cell (get E a) t
def rvRun : List RV → Sem (List Value)
  | [] => pure []
  | .tmp v :: r => do let vs ← rvRun r; pure (v :: vs)
  | .cell a t :: r => do let v ← (do loadVar t (← asAddr a)); let vs ← rvRun r; pure (v :: vs)
def single (vs : List Value) : Value :=
  match vs with
  | [v] => v
  | vs => .tuple vs.toArray
def plainRV : List RV → Option (List Value)
  | [] => some []
  | .tmp v :: r => (plainRV r).map (v :: ·)
  | .cell .. :: _ => none
def Res (P : Program) (rs : List RV) (w : World) (R : Ending → World → Prop) : Prop :=
  match plainRV rs with
  | some vs => R (.returned (single vs)) w
  | none => ∃ vs, (rvRun rs).run P w = .ok vs w ∧ R (.returned (single vs)) w
theorem rvRun_plain {P : Program} : ∀ {rs : List RV} {vs : List Value} (w : World), plainRV rs = some vs → (rvRun rs).run P w = .ok vs w
  | [], vs, w, h => by simp [plainRV] at h; subst h; rfl
  | .tmp v :: r, vs, w, h => by
    simp only [plainRV, Option.map_eq_some_iff] at h
    obtain ⟨us, hu, rfl⟩ := h
    simp only [rvRun, Sem.run_bind, rvRun_plain w hu, Result.andThen_ok, Sem.run_pure]
  | .cell _ _ :: _, _, _, h => by simp [plainRV] at h
theorem results_run {P : Program} {n : Nat} {E : Env} {a : Act} (h : Agree n E a) (fn : Func) (w : World) (vs : List Value) (hr : (rvRun (rvs fn.results E)).run P w = .ok vs w) :
    (results fn a.tmps).run P w = .ok (single vs) w := by
  have key : ∀ (l : List ResultVar) (w w' : World) (vs : List Value), (rvRun (l.map fun | .tmp t => .tmp (get E t) | .cell a t => .cell (get E a) t)).run P w = .ok vs w' →
      (l.mapM (m := Sem) fun | .tmp t => pure (get E t) | .cell x t => do loadVar t (← asAddr (get E x))).run P w = .ok vs w' := by
    intro l
    induction l with
    | nil => intro w w' vs h; simpa [rvRun] using h
    | cons r l ih =>
      intro w w' vs hh
      cases r with
      | tmp t =>
        simp only [List.map_cons, rvRun, Sem.run_bind] at hh
        simp only [List.mapM_cons, Sem.run_bind, Sem.run_pure, Result.andThen_ok]
        cases hx : Sem.run P (rvRun (l.map fun | .tmp t => .tmp (get E t) | .cell a t => .cell (get E a) t)) w with
        | ok us w1 => rw [hx] at hh; rw [ih _ _ _ hx]; exact hh
        | halt x w1 => rw [hx] at hh; simp [Result.andThen] at hh
      | cell x t =>
        simp only [List.map_cons, rvRun, Sem.run_bind] at hh
        simp only [List.mapM_cons, Sem.run_bind]
        generalize ((asAddr (get E x)).run P w).andThen (fun a w' => (loadVar t a).run P w') = r at hh ⊢
        cases r with
        | ok u w1 =>
          simp only [Result.andThen_ok] at hh ⊢
          cases hx : Sem.run P (rvRun (l.map fun | .tmp t => .tmp (get E t) | .cell a t => .cell (get E a) t)) w1 with
          | ok us w2 => rw [hx] at hh; rw [ih _ _ _ hx]; exact hh
          | halt x w2 => rw [hx] at hh; simp [Result.andThen] at hh
        | halt x w1 => simp [Result.andThen] at hh
  have h1 := key fn.results.toList w w vs hr
  unfold results
  simp only [h.val]
  rw [Sem.run_bind, Array.mapM_eq_mapM_toList]
  simp only [Sem.run_map, Sem.run_pure]
  have e : ∀ x : Sem (List Value), x.run P w = .ok vs w → (((x.run P w).andThen fun a w' => .ok a.toArray w').andThen fun (a : Array Value) w' => .ok (if h : a.size = 1 then a[0] else Value.tuple a) w') = .ok (single vs) w := by
    intro x hx
    rw [hx]
    match vs with
    | [] => rfl
    | [v] => rfl
    | _ :: _ :: _ => rfl
  exact e _ h1
theorem res_run {P : Program} {n : Nat} {E : Env} {a : Act} (h : Agree n E a) {fn : Func} {w : World} {R : Ending → World → Prop} (hr : Res P (rvs fn.results E) w R) :
    ∃ v, (results fn a.tmps).run P w = .ok v w ∧ R (.returned v) w := by
  unfold Res at hr
  split at hr
  · rename_i vs hp
    exact ⟨_, results_run h fn w vs (rvRun_plain w hp), hr⟩
  · obtain ⟨vs, h1, h2⟩ := hr
    exact ⟨_, results_run h fn w vs h1, h2⟩
def endE (P : Program) (rs : Array ResultVar) (R : Ending → World → Prop) : Post := fun e E ds w => (fun _ : Prop => match e with
  | .normal | .ret => (match ds with | [] => Res P (rvs rs E) w R | _ => False)
  | .panic ch => (match ds with | [] => R (.panicked ch) w | _ => False)
  | _ => False) tall
def rslots (rs : Array ResultVar) : List Nat := rs.toList.map fun
  | .tmp t => t
  | .cell a _ => a
def LeavesE (P : Program) (fn : Func) (vs : List (Nat × Value)) (R : Ending → World → Prop) (ds : List Deferred) (u : FrameMode) (w : World) : Prop :=
  ∀ tmps : Array Value, (∀ p ∈ vs, tmps.getD p.1 undef = p.2) → Leaves P fn tmps R ds u w
def endD (P : Program) (fn : Func) (R : Ending → World → Prop) : Post := fun e E ds w => (fun _ : Prop => match e with
  | .normal | .ret => LeavesE P fn ((rslots fn.results).map fun t => (t, get E t)) R ds .returning w
  | .panic ch => LeavesE P fn ((rslots fn.results).map fun t => (t, get E t)) R ds (.panicking ch) w
  | _ => False) tall
theorem leavesE_run {P : Program} {n : Nat} {E : Env} {a : Act} (h : Agree n E a) {fn : Func} {w : World} {R : Ending → World → Prop} {ds : List Deferred} {u : FrameMode}
    (hl : LeavesE P fn ((rslots fn.results).map fun t => (t, get E t)) R ds u w) : Leaves P fn a.tmps R ds u w :=
  hl _ fun p hp => by
    obtain ⟨t, _, rfl⟩ := List.mem_map.1 hp
    exact h.val t

def argsE (args : List Value) : Env := (args.zipIdx.map fun (v, i) => (i, some v))
theorem get_argsE_go (args : List Value) (k t : Nat) : get ((args.zipIdx k).map fun (v, i) => (i, some v)) t = if k ≤ t then (args[t - k]?).getD undef else undef := by
  induction args generalizing k with
  | nil => simp [get_nil]
  | cons x xs ih =>
    simp only [List.zipIdx_cons, List.map_cons, get_cons, Option.getD_some]
    rw [ih (k + 1)]
    by_cases h : t = k
    · subst h; simp
    · rw [if_neg h]
      by_cases h2 : k ≤ t
      · rw [if_pos h2, if_pos (by omega)]
        have : t - k = (t - (k + 1)) + 1 := by omega
        rw [this, List.getElem?_cons_succ]
      · rw [if_neg h2, if_neg (by omega)]
theorem agree_args (args : List Value) (n : Nat) (h : args.length ≤ n) (ds : List Deferred) : Agree n (argsE args) { tmps := args.toArray ++ Array.replicate (n - args.toArray.size) undef, defers := ds } := by
  refine ⟨by simp; omega, fun t => ?_⟩
  rw [argsE, get_argsE_go]
  simp only [Nat.zero_le, if_true, Nat.sub_zero]
  rw [Array.getD_eq_getD_getElem?, Array.getElem?_append]
  split
  · simp
  · rename_i hlt
    have hge : args.length ≤ t := by simpa using hlt
    rw [List.getElem?_eq_none hge]
    simp only [Array.getElem?_replicate]
    split <;> rfl

theorem calls_of_vc {P : Program} {f : FuncId} {fn : Func} {c : Code} {args : List Value} {w : World} {R : Ending → World → Prop} (dr : List (Nat × Nat × Bool × Nat)) (vars : List Nat) (hm : P.follows .mixedOrders = true)
    (hf : P.funcs[f]? = some fn) (hb : fn.body = some c) (hn : args.length ≤ fn.ntmps) (ok : codeOk fn.ntmps [] dr c = true)
    (h : vc P dr vars c (endE P fn.results R) (argsE args) [] w) : Calls P f args.toArray w R :=
  calls_of_wp hf hb (wpIn_wide (n := 0).1 <| vc_sound hm c none _ _ _ _ _ _ (.inl rfl) ok (fun _ _ _ ds _ _ h => by cases ds <;> exact h) (agree_args args fn.ntmps hn []) rfl (fun e E' a' ds' w' ha hd hq => by
    cases e with
    | normal => cases ds' <;> first | (obtain ⟨v, hr, hR⟩ := res_run ha hq; exact ⟨hd, v, hr, hR⟩) | exact hq.elim
    | ret => cases ds' <;> first | (obtain ⟨v, hr, hR⟩ := res_run ha hq; exact ⟨hd, v, hr, hR⟩) | exact hq.elim
    | panic ch => cases ds' <;> first | exact ⟨hd, hq⟩ | exact hq.elim
    | _ => exact hq.elim) h)
theorem calls_of_vcD {P : Program} {f : FuncId} {fn : Func} {c : Code} {args : List Value} {w : World} {R : Ending → World → Prop} (dr : List (Nat × Nat × Bool × Nat)) (vars : List Nat) (hm : P.follows .mixedOrders = true)
    (hf : P.funcs[f]? = some fn) (hb : fn.body = some c) (hn : args.length ≤ fn.ntmps) (ok : codeOk fn.ntmps (rslots fn.results) dr c = true)
    (h : vc P dr vars c (endD P fn R) (argsE args) [] w) : Calls P f args.toArray w R :=
  calls_of_wp_defers hf hb (wpIn_wide (n := 0).1 <| vc_sound hm c none _ _ _ _ _ _ (.inl rfl) ok (fun ch E E' ds w he h => by
    have e : (rslots fn.results).map (fun t => (t, get E t)) = (rslots fn.results).map (fun t => (t, get E' t)) := List.map_congr_left fun t ht => by rw [he t ht]
    show LeavesE P fn _ R ds _ w
    rw [← e]; exact h) (agree_args args fn.ntmps hn []) rfl (fun e E' a' ds' w' ha hd hq => by
    cases e with
    | normal => subst hd; exact leavesE_run ha hq
    | ret => subst hd; exact leavesE_run ha hq
    | panic ch => subst hd; exact leavesE_run ha hq
    | _ => exact hq.elim) h)
def MarkE (D : Nat) (w : World) (k : World → Prop) : Prop := w.heap[D]? = some (.deferred (some [])) ∧ k (w.putObj D (.deferred none))
def outM (P : Program) (rs : Array ResultVar) (R : Ending → World → Prop) (E : Env) (ds : List Deferred) (w : World) : Prop := (fun _ : Prop => match ds with
  | [] => Res P (rvs rs E) w R
  | [d] => (match d.target with
    | .collected D => MarkE D w fun w' => Res P (rvs rs E) w' R
    | _ => False)
  | _ => False) tall
def endM (P : Program) (rs : Array ResultVar) (R : Ending → World → Prop) : Post := fun e E ds w => (fun _ : Prop => match e with
  | .normal | .ret => outM P rs R E ds w
  | .panic ch => (match ds with | [] => R (.panicked ch) w | _ => False)
  | _ => False) tall
theorem calls_of_vcM {P : Program} {f : FuncId} {fn : Func} {c : Code} {args : List Value} {w : World} {R : Ending → World → Prop} (dr : List (Nat × Nat × Bool × Nat)) (vars : List Nat) (hm : P.follows .mixedOrders = true)
    (hf : P.funcs[f]? = some fn) (hb : fn.body = some c) (hn : args.length ≤ fn.ntmps) (ok : codeOk fn.ntmps [] dr c = true)
    (h : vc P dr vars c (endM P fn.results R) (argsE args) [] w) : Calls P f args.toArray w R := by
  refine (calls_wf (ρ := none) (n := 0)).1 (callsIn_of_wp_marks hf hb trivial (vc_sound hm c none _ _ _ _ _ _ (.inl rfl) ok (fun _ _ _ ds _ _ h => by cases ds <;> exact h) (agree_args args fn.ntmps hn []) rfl (fun e E' a' ds' w' ha hd hq => ?_) h))
  have fin : ∀ w1, Res P (rvs fn.results E') w1 R → LeavesInM (WF none) 0 P fn a'.tmps R [] .returning w1 := fun w1 hr => by
    obtain ⟨v, h1, h2⟩ := res_run ha hr
    exact ⟨v, h1, h2⟩
  have out : outM P fn.results R E' ds' w' → LeavesInM (WF none) 0 P fn a'.tmps R a'.defers .returning w' := fun hq => by
    subst hd
    clear ha
    revert hq
    generalize a'.defers = ds
    intro hq
    match ds, hq with
    | [], hq => exact fin _ hq
    | [d], hq =>
      obtain ⟨t, as⟩ := d
      cases t with
      | collected D => exact ⟨by simp, .inl ⟨D, _, rfl, run_takeDeferred hq.1, fin _ hq.2⟩⟩
      | _ => exact hq.elim
    | _ :: _ :: _, hq => exact hq.elim
  cases e with
  | normal => exact out hq
  | ret => exact out hq
  | panic ch =>
    cases ds' with
    | nil =>
      show LeavesInM (WF none) 0 P fn a'.tmps R a'.defers (.panicking ch) w'
      rw [hd]; exact hq
    | cons _ _ => exact hq.elim
  | _ => exact hq.elim
end Sh
end Go.Proofs.YtoeblipchoglaaaGreatDoor

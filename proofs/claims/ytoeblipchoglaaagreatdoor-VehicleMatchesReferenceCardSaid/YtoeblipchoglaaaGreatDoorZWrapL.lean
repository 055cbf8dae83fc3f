/- The same for a law whose row lists package-level variables. -/
import Derived.Test.YtoeblipchoglaaaGreatDoorZWrap
import Derived.Deep.DeepHandedRow
import Derived.Lib.LaidTab
namespace Go.Proofs.YtoeblipchoglaaaGreatDoor
set_option maxRecDepth 100000
namespace Sh
open Go.RowKit Go.WideShapes Go.ChangeShapes Go.ChangeAt
theorem law_returns_row {C : Checked} {os : Os} {f : FuncId} {fn : Func} {s : ChangeSpec} {F : Stop.Interp} {conds : List PathCond} {apart fresh handsOn again : Bool} {laid : List (String × DataW Unit)} {bt : TypeId} {H : Type} {enc : TypeId × Value → H}
    (own : ownKnob C.prog.godebug = none) (started : os.Started) (noInit : C.prog.inits.idxOf? f = none) (hfn : C.prog.funcs[f]? = some fn)
    (witness : ∃ (w : World) (tape : Tape) (i : Input), w.os = os ∧ (w.forCall tape i).Shaped C.prog ∧ i.vars = [] ∧ Input.okWide C.prog (w.forCall tape i) .any w.heap.size f i ∧
      (OpenSpec.ofChange s).preRow enc C.prog fn conds apart laid (w.forCall tape i).memory i.args ∧ ({} : Assume).holds C.prog (lone (Frame.enter C.prog f i.args .normal) [] (w.forCall tape i)))
    (hv : s.vars = []) (hl : laidOutB C.prog = true) (hr : ∀ t ∈ fn.params.toList, C.prog.readableRec t = true ∧ t < C.prog.types.size) (hrt : fn.resultTypes = #[bt]) (hbt : C.prog.underlying bt = some .bool)
    (hs : ∀ ds : List (DataW H), ds.length = fn.params.toList.length → s.fn H ds = { results := [.lit (.bool true)], args := ds })
    (walk : ∀ (W : World) (base : Nat) (args : List Value) (ds : List (DataW H)) (ps : List MemPlace), (∀ (j : Nat) t v, fn.params.toList[j]? = some t → args[j]? = some v → Value.okWide C.prog W .any base t v) →
      DataW.TrodAll enc C.prog W 0 (fun _ => true) true fn.params.toList args ds ps → laidMetH C.prog laid W → LawTrue C.prog f args.toArray W) :
    ReturnsInHanded {} C os f .any ((OpenSpec.ofChange s).preRow enc C.prog fn conds apart laid) (((OpenSpec.ofChange s).at F).post enc C.prog fn apart fresh handsOn again) := by
  refine returnsInHanded_of_row own started noInit hfn witness ?_
  intro W base args ds gs before hval hW _ _ _ hL _ _
  have hW : DataW.Whole enc C.prog fn.params.toList s.vars apart W args.toList ds gs before := hW
  have hW' := hW
  obtain ⟨p, q, hA, hV, rfl, _, _⟩ := hW
  rw [hv] at hV
  obtain ⟨rfl, rfl⟩ := trodVars_none hV
  have hlt := fun x (hx : x ∈ p) => hW'.lt x (by simp [hx])
  have hd := (trodAll_length hA).1
  have hfs := hs ds hd
  have hw : LawTrue C.prog f args W := by
    have := walk W base args.toList ds p (fun j t v ht hv => hval j t v (by simpa using ht) (by simpa using hv)) hA hL
    simpa using this
  refine Calls.mono hw fun e W' he => ?_
  cases e with
  | returned v =>
    obtain ⟨rfl, hx⟩ := he
    refine ⟨_, rfl, ?_⟩
    show s.post enc C.prog fn apart fresh handsOn again W args (.bool true) W'
    refine post_of_below (pa := p) (pv := []) hW' (fun b sp hd => ?_) (fun sp hsp => ?_) (fun sp _ => ?_) (by simp) hx ?_
    · rw [List.append_nil, hfs, hrt]
      exact trodAll_mk1 (shut_bool hbt true)
    · rw [List.append_nil, hfs]
      exact trodAll_below hl hx hr hA hlt fun x hx => hsp x (by simp [hx])
    · rw [List.append_nil, hfs, hv]; rfl
    · exact ok_one hrt rfl (by simp [Value.okWide, hbt, Cell.okWide, Cell.ok])
  | panicked _ => exact he.elim
  | outgrown => exact he.elim
theorem tab_of_laid {P : Program} {W : World} {name : String} {k : IntKind} {zs : List Int} {g : Nat} {t e : TypeId} {n : Nat} {laid : List (String × DataW Unit)}
    (hg : P.globalNamed name = some g) (hty : (P.globals[g]?).map (·.type) = some t) (ht : P.underlying t = some (.array n e)) (he : P.underlying e = some (.int k)) (hce : P.cellsOf e = 1) (hct : P.cellsOf t = n)
    (hm : (name, Go.Lib.tabData k zs) ∈ laid) (h : laidMet P laid W) : Go.Lib.TabIs P W name k zs := by
  obtain ⟨ps, hl, _⟩ := h
  have key : ∀ (l : List (String × DataW Unit)) (ps : List MemPlace), DataW.LaidVars P W l ps → (name, Go.Lib.tabData k zs) ∈ l → Go.Lib.TabIs P W name k zs := by
    intro l
    induction l with
    | nil => intro ps _ hm; cases hm
    | cons x r ih =>
      obtain ⟨n', d⟩ := x
      rintro ps ⟨g', t', cs, fuel, p, q, hg', ht', hvar, hd, hr, _⟩ hm
      rcases List.mem_cons.1 hm with he2 | hm
      · cases he2
        obtain rfl := Option.some.inj (hg.symm.trans hg')
        obtain rfl := Option.some.inj (hty.symm.trans ht')
        unfold Go.Lib.TabIs
        rw [hvar, ← Go.Lib.cells_of_tab ht he hce hct hd]
      · exact ih q hr hm
  exact key _ _ hl hm
def cellsOfTab (d : DataW Unit) : Array Value := match d with
  | .agg ds => (ds.map fun | .lit (.int k n) => Value.int k n | _ => undef).toArray
  | _ => #[]
def fillVars (l : List (Nat × DataW Unit)) (w : World) : World := l.foldl (fun w p => { w with heap := w.heap.modify p.1 fun | .cells _ t f => .cells (cellsOfTab p.2) t f | o => o }) w
end Sh
end Go.Proofs.YtoeblipchoglaaaGreatDoor

/- A deferred function whose first operation is recover: the rest of its code laid out. No program in sight. -/
import Derived.Test.YtjinhojlnaplaaaDoorRules
import Derived.Recover
namespace Go.Proofs.YtjinhojlnaplaaaDoor
set_option maxRecDepth 100000
namespace Sh
/-- What recover gives a deferred function, and how it leaves the frame below. -/
def recV : FrameMode → Value
  | .panicking ({ v, recovered := false, goexit := false } :: _) => v
  | _ => .nilIface
def recM : FrameMode → FrameMode
  | .panicking ({ v, recovered := false, goexit := false } :: older) => .panicking ({ v, recovered := true } :: older)
  | u => u
theorem recoverD_eq {c : Frame} {cs : List Frame} {u : FrameMode} (h : c.mode = u) : (∃ cs', recoverD (c :: cs) = some (recV u, cs') ∧ cs' = { c with mode := recM u } :: cs) ∨ (recoverD (c :: cs) = none ∧ recV u = .nilIface ∧ recM u = u) := by
  subst h
  simp only [recoverD]
  split
  · rename_i v older hm
    rw [hm]
    exact .inl ⟨_, rfl, rfl⟩
  · rename_i hn
    refine .inr ⟨rfl, ?_, ?_⟩
    · unfold recV; split
      · rename_i hm; exact absurd hm (hn _ _)
      · rfl
    · unfold recM; split
      · rename_i hm; exact absurd hm (hn _ _)
      · rfl
/-- The ends of a function without results. -/
def endR (R : Ending → World → Prop) : Post := fun e _ ds w => (fun _ : Prop => match e, ds with
  | .normal, [] | .ret, [] => R (.returned (.tuple #[])) w
  | .panic ch, [] => R (.panicked ch) w
  | _, _ => False) tall
theorem callsD_of_rec {P : Program} {f : FuncId} {fn : Func} {id d : Nat} {o : Oper} {c : Code} {args : List Value} {u : FrameMode} {w : World} {R : Ending → World → Prop} (dr : List (Nat × Nat × Bool × Nat)) (vars : List Nat) (hm : P.follows .mixedOrders = true)
    (hf : P.funcs[f]? = some fn) (hb : fn.body = some (.seq (.region id #[o] false) c)) (hres : fn.results = #[]) (hex : ∀ a w, (execOp a o).run P w = .ok .recover w) (hog : o.guard = none) (hod : o.dst = some d) (hd : d < fn.ntmps) (hn : args.length ≤ fn.ntmps) (ok : codeOk fn.ntmps [] dr c = true)
    (h : vc P dr vars c (endR R) ((d, some (recV u)) :: argsE args) [] w) : CallsD P f args.toArray u w fun e u' w' => u' = recM u ∧ R e w' := by
  refine callsD_of_wpS hf hb fun c₀ cs hu => wpS_seq (wpS_region ?_)
  have hr : List.range (#[o] : Array Oper).size = [0] := rfl
  have hag := (agree_args args fn.ntmps hn []).put (some d) (fun t ht => by cases ht; exact hd) (recV u)
  rw [hr]
  have rest : ∀ cs', cs' = { c₀ with mode := recM u } :: cs → c.wpS P (bodyPostS P fn c₀ cs fun e u' w' => u' = recM u ∧ R e w') (({ tmps := args.toArray ++ Array.replicate (fn.ntmps - args.toArray.size) undef, defers := [] } : Act).put (some d) (recV u)) cs' w := fun cs' hcs => by
    subst hcs
    refine wpS_of_wp (wpIn_wide (n := 0).1 <| vc_sound hm c none _ _ _ _ _ _ (.inl rfl) ok (fun _ _ _ ds _ _ h => by cases ds <;> exact h) hag rfl (fun e E' a' ds' w' ha hdf hq => ?_) h)
    have hv : (results fn a'.tmps).run P w' = .ok (.tuple #[]) w' := by simp [results, hres]
    cases e with
    | normal => cases ds' <;> first | exact ⟨hdf, _, rfl, _, hv, rfl, hq⟩ | exact hq.elim
    | ret => cases ds' <;> first | exact ⟨hdf, _, rfl, _, hv, rfl, hq⟩ | exact hq.elim
    | panic ch => cases ds' <;> first | exact ⟨hdf, _, rfl, rfl, hq⟩ | exact hq.elim
    | _ => exact hq.elim
  simp only [wpOpsS, List.getElem?_toArray, List.getElem?_cons_zero, Region.wanted, hog, if_true, hex, hod]
  rcases recoverD_eq (cs := cs) hu with ⟨cs', h1, h2⟩ | ⟨h1, h2, h3⟩
  · rw [h1]; exact rest cs' h2
  · rw [h1]
    have := rest (c₀ :: cs) (by rw [h3, ← hu])
    rw [h2] at this
    exact this
theorem callsD_of_rec2 {P : Program} {f : FuncId} {fn : Func} {id d d2 : Nat} {o o2 : Oper} {c : Code} {args : List Value} {u : FrameMode} {w : World} {R : Ending → World → Prop} (dr : List (Nat × Nat × Bool × Nat)) (vars : List Nat) (hm : P.follows .mixedOrders = true)
    (hf : P.funcs[f]? = some fn) (hb : fn.body = some (.seq (.region id #[o, o2] false) c)) (hres : fn.results = #[]) (hex : ∀ a w, (execOp a o).run P w = .ok .recover w) (hex2 : ∀ a w, (execOp a o2).run P w = .ok (.value (a (.tmp d))) w) (hog : o.guard = none) (hod : o.dst = some d) (hog2 : o2.guard = none) (hod2 : o2.dst = some d2) (hd : d < fn.ntmps) (hd2 : d2 < fn.ntmps) (hn : args.length ≤ fn.ntmps) (ok : codeOk fn.ntmps [] dr c = true)
    (h : vc P dr vars c (endR R) ((d2, some (recV u)) :: (d, some (recV u)) :: argsE args) [] w) : CallsD P f args.toArray u w fun e u' w' => u' = recM u ∧ R e w' := by
  refine callsD_of_wpS hf hb fun c₀ cs hu => wpS_seq (wpS_region ?_)
  have hr : List.range (#[o, o2] : Array Oper).size = [0, 1] := rfl
  have hag1 := (agree_args args fn.ntmps hn []).put (some d) (fun t ht => by cases ht; exact hd) (recV u)
  have hag := hag1.put (some d2) (fun t ht => by cases ht; exact hd2) (recV u)
  rw [hr]
  have hev : (({ tmps := args.toArray ++ Array.replicate (fn.ntmps - args.toArray.size) undef, defers := [] } : Act).put (some d) (recV u)).eval (.tmp d) = recV u := by
    rw [hag1.eval]
    simp [ev, put, get, putO, getO]
  have rest : ∀ cs', cs' = { c₀ with mode := recM u } :: cs → c.wpS P (bodyPostS P fn c₀ cs fun e u' w' => u' = recM u ∧ R e w') ((({ tmps := args.toArray ++ Array.replicate (fn.ntmps - args.toArray.size) undef, defers := [] } : Act).put (some d) (recV u)).put (some d2) (recV u)) cs' w := fun cs' hcs => by
    subst hcs
    refine wpS_of_wp (wpIn_wide (n := 0).1 <| vc_sound hm c none _ _ _ _ _ _ (.inl rfl) ok (fun _ _ _ ds _ _ h => by cases ds <;> exact h) hag rfl (fun e E' a' ds' w' ha hdf hq => ?_) h)
    have hv : (results fn a'.tmps).run P w' = .ok (.tuple #[]) w' := by simp [results, hres]
    cases e with
    | normal => cases ds' <;> first | exact ⟨hdf, _, rfl, _, hv, rfl, hq⟩ | exact hq.elim
    | ret => cases ds' <;> first | exact ⟨hdf, _, rfl, _, hv, rfl, hq⟩ | exact hq.elim
    | panic ch => cases ds' <;> first | exact ⟨hdf, _, rfl, rfl, hq⟩ | exact hq.elim
    | _ => exact hq.elim
  simp only [wpOpsS, List.getElem?_toArray, List.getElem?_cons_zero, List.getElem?_cons_succ, Region.wanted, hog, hog2, if_true, hex, hex2, hod, hod2, Oper.upon]
  rcases recoverD_eq (cs := cs) hu with ⟨cs', h1, h2⟩ | ⟨h1, h2, h3⟩
  · rw [h1]
    simp only [hev]
    exact rest cs' h2
  · rw [h1]
    have := rest (c₀ :: cs) (by rw [h3, ← hu])
    have hev' := hev
    rw [h2] at this hev'
    simp only [hev']
    exact this
end Sh
end Go.Proofs.YtjinhojlnaplaaaDoor

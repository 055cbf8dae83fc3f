/- Regions whose order is drawn in which operations store into the cells of one block. -/
import Derived.Test.YtoeblipchoglaaaGreatDoorZStrA
namespace Go.Proofs.YtoeblipchoglaaaGreatDoor
set_option maxRecDepth 100000
namespace Sh
open Go.RowKit
variable {P : Program} {w : World} {K : Value → World → Prop} {X : List PanicEntry → World → Prop}
def Sto (b : Nat) (N : Nat → Prop) (e : TypeId) (F : Nat → Value → Prop) (a c : World) : Prop :=
  Mod (fun k => k = b ∨ N k) a c ∧ ∀ cs : Array Value, At a b (.cells cs e (0, 0)) → ∃ cs' : Array Value, At c b (.cells cs' e (0, 0)) ∧ cs'.size = cs.size ∧ ∀ (i : Nat) (u : Value), cs'[i]? = some u → cs[i]? = some u ∨ F i u
def no : Nat → Prop := fun _ => False
theorem Sto.refl {b : Nat} {N : Nat → Prop} {e : TypeId} {F : Nat → Value → Prop} (a : World) : Sto b N e F a a := ⟨Mod.refl _ _, fun cs h => ⟨cs, h, rfl, fun _ _ h => .inl h⟩⟩
theorem Sto.trans {b : Nat} {N : Nat → Prop} {e : TypeId} {F : Nat → Value → Prop} {a c d : World} (h : Sto b N e F a c) (h' : Sto b N e F c d) : Sto b N e F a d := by
  refine ⟨h.1.trans h'.1, fun cs hcs => ?_⟩
  obtain ⟨c1, h1, h2, h3⟩ := h.2 cs hcs
  obtain ⟨c2, k1, k2, k3⟩ := h'.2 c1 h1
  exact ⟨c2, k1, k2.trans h2, fun i u hu => (k3 i u hu).elim (h3 i u) .inr⟩
theorem Sto.of_ext {b : Nat} {N : Nat → Prop} {e : TypeId} {F : Nat → Value → Prop} {a c : World} (h : Ext a c) : Sto b N e F a c := ⟨.of_ext h, fun cs hcs => ⟨cs, hcs.ext h, rfl, fun _ _ h => .inl h⟩⟩
theorem Sto.mono {b : Nat} {N M : Nat → Prop} {e : TypeId} {F G : Nat → Value → Prop} {a c : World} (h : Sto b N e F a c) (hn : ∀ k, N k → M k) (hf : ∀ i u, F i u → G i u) : Sto b M e G a c :=
  ⟨h.1.mono fun k _ => Or.imp_right (hn k), fun cs hcs => by
    obtain ⟨c1, h1, h2, h3⟩ := h.2 cs hcs
    exact ⟨c1, h1, h2, fun i u hu => (h3 i u hu).imp_right (hf i u)⟩⟩
theorem Sto.ext {b : Nat} {N : Nat → Prop} {e : TypeId} {F : Nat → Value → Prop} {w a c : World} (hx : Ext w a) (hb : w.heap.size ≤ b) (hn : ∀ k, N k → w.heap.size ≤ k) (h : Sto b N e F a c) : Ext w c :=
  ((Mod.of_ext hx : Mod (w.heap.size ≤ ·) w a).comp h.1 (fun _ _ h => h) (fun k _ hk => hk.elim (fun e => by subst e; exact hb) (hn k)) : Mod (w.heap.size ≤ ·) w c).new
theorem Sto.at_ {b k : Nat} {N : Nat → Prop} {e : TypeId} {F : Nat → Value → Prop} {a c : World} {o : Obj} (h : Sto b N e F a c) (hat : At a k o) (hne : k ≠ b) (hn : ¬ N k) : At c k o := hat.mod h.1 fun hh => hh.elim hne hn
theorem Sto.both {b : Nat} {N : Nat → Prop} {e : TypeId} {F G : Nat → Value → Prop} {a c : World} (h : Ext a c) : Both (Sto b N e F) (fun u => match u with | 0 => Sto b no e G | _ + 1 => fun _ _ => True) a c := ⟨Sto.of_ext h, fun u => by match u with | 0 => exact Sto.of_ext h | _ + 1 => trivial⟩
theorem draw_sto {body : (World → World → Prop) → (World → World → Prop) → World → Prop} (b : Nat) (e : TypeId) (F : Nat → Value → Prop) (h : ∀ w0, Ext w w0 → body (Sto b no e F) (Sto b no e F) w0) : DrawE w body :=
  ⟨_, _, ⟨fun a => Sto.refl a, fun _ _ _ => Sto.trans, fun _ _ h => h, fun _ _ _ => Sto.trans⟩, h w.drew (Ext.drew w)⟩
section
variable {b : Nat} {N : Nat → Prop} {e : TypeId} {F : Nat → Value → Prop} {w0 : World} {op : World → (Value → World → Prop) → Prop} {rest : Value → (World → Prop) → Prop}
theorem det_sto (c : Value) (h : ∀ w1, Sto b N e F w0 w1 → ∀ K : Value → World → Prop, op w1 K = K c w1) (hk : rest c fun _ => True) : DetOp (Sto b N e F) (Sto b N e F) w0 op rest :=
  det_pure c (fun a => Sto.refl a) (fun w1 h1 K hk => by rw [h w1 h1 K]; exact hk) hk
theorem det_sto_ret {f : FuncId} {args : Array Value} (c : Value) (h : ∀ w1, Sto b N e F w0 w1 → Ret P f args w1 fun r w' => r = c ∧ Ext w1 w') (hk : rest c fun _ => True) :
    DetOp (Sto b N e F) (Sto b N e F) w0 (fun w1 K => CallF P f args w1 K X) rest :=
  ⟨c, fun _ => True, fun _ _ _ _ => trivial, fun w1 h1 => callF_ret (h w1 h1) fun v w2 hq => ⟨hq.1, Sto.of_ext hq.2, trivial⟩, hk⟩
theorem det_fill {t : TypeId} {n : Nat} {vs : List Value} (hs : ∀ w, (sizeOf t).run P w = .ok n w) (hn : vs.length = n) (h1 : ∀ u ∈ vs, u.oneCell' = true) (h0 : ∃ cs, At w0 b (.cells cs e (0, 0)) ∧ cs.size = n)
    (hk : rest undef fun w => At w b (.cells vs.toArray e (0, 0))) :
    DetOp (Sto b no e fun i u => vs[i]? = some u) (Sto b no e fun i u => vs[i]? = some u) w0 (fun w1 K => DoU P (Instr.storeAt t (.pointer (some ⟨b, 0, none⟩)) (.agg vs.toArray)) w1 K X) rest := by
  obtain ⟨cs0, hat0, hsz0⟩ := h0
  refine ⟨undef, _, fun a c hat hr => ?_, fun w1 hr => ?_, hk⟩
  · obtain ⟨cs', h2, h3, h4⟩ := hr.2 _ hat
    have : cs' = vs.toArray := by
      refine Array.ext (by rw [h3]) fun i hi1 hi2 => ?_
      have hu : cs'[i]? = some cs'[i] := Array.getElem?_eq_getElem hi1
      have : vs.toArray[i]? = some cs'[i] := by
        rcases h4 i _ hu with h | h
        · exact h
        · simpa using h
      rw [Array.getElem?_eq_getElem hi2] at this
      exact (Option.some.inj this).symm
    rw [this] at h2; exact h2
  · obtain ⟨cs1, hat1, hsz1, hc1⟩ := hr.2 cs0 hat0
    refine store_all (v := .agg vs.toArray) hs hat1 (by omega) (by show vs.toArray.size = n; simpa using hn) (by show ∀ u ∈ vs.toArray.toList, _; simpa using h1) fun w2 m2 hat2 _ => ⟨rfl, ⟨m2.mono fun k _ => .inl, fun cs hcs => ?_⟩, hat2⟩
    unfold At at hcs hat1
    rw [hat1] at hcs
    simp only [Option.some.injEq, Obj.cells.injEq, true_and, and_true] at hcs
    subst hcs
    exact ⟨vs.toArray, hat2, by simp; omega, fun i u hu => .inr (by simpa using hu)⟩
theorem det_cell {t : TypeId} {o : Nat} {v : Value} (hs : ∀ w, (sizeOf t).run P w = .ok 1 w) (hv : v.oneCell' = true) (h0 : ∃ cs, At w0 b (.cells cs e (0, 0)) ∧ o < cs.size) (hF : ∀ u, F o u → u = v) (hFv : F o v)
    (hk : rest undef fun w => ∃ cs, At w b (.cells cs e (0, 0)) ∧ cs[o]? = some v) :
    DetOp (Sto b no e F) (Sto b no e F) w0 (fun w1 K => DoU P (Instr.storeAt t (.pointer (some ⟨b, o, none⟩)) v) w1 K X) rest := by
  obtain ⟨cs0, hat0, hsz0⟩ := h0
  refine ⟨undef, _, fun a c hat hr => ?_, fun w1 hr => ?_, hk⟩
  · obtain ⟨cs, hat, hcs⟩ := hat
    obtain ⟨cs', h2, h3, h4⟩ := hr.2 _ hat
    have hlt : o < cs'.size := by
      rw [h3]
      exact (Array.getElem?_eq_some_iff.1 hcs).1
    refine ⟨cs', h2, ?_⟩
    rw [Array.getElem?_eq_getElem hlt]
    rcases h4 o _ (Array.getElem?_eq_getElem hlt) with h | h
    · rw [hcs] at h; exact h.symm
    · rw [hF _ h]
  · obtain ⟨cs1, hat1, hsz1, hc1⟩ := hr.2 cs0 hat0
    refine store_i hs hat1 (by omega) hv fun w2 m2 hat2 _ => ⟨rfl, ⟨m2.mono fun k _ => .inl, fun cs hcs => ?_⟩, _, hat2, by simp [show o < cs1.size by omega]⟩
    unfold At at hcs hat1
    rw [hat1] at hcs
    simp only [Option.some.injEq, Obj.cells.injEq, true_and, and_true] at hcs
    subst hcs
    refine ⟨_, hat2, by simp, fun i u hu => ?_⟩
    rw [Array.getElem?_setIfInBounds] at hu
    split at hu
    · rename_i hio
      subst hio
      split at hu
      · cases hu; exact .inr hFv
      · cases hu
    · exact .inl hu
end
theorem sto_cell {b o : Nat} {e : TypeId} {v : Value} {w1 w2 : World} {cs1 : Array Value} (hat1 : At w1 b (.cells cs1 e (0, 0))) (hat2 : At w2 b (.cells (cs1.setIfInBounds o v) e (0, 0))) (m : Mod (· = b) w1 w2) : Sto b no e (fun i u => i = o ∧ u = v) w1 w2 := by
  refine ⟨m.mono fun k _ => .inl, fun cs hcs => ?_⟩
  unfold At at hcs hat1
  rw [hat1] at hcs
  simp only [Option.some.injEq, Obj.cells.injEq, true_and, and_true] at hcs
  subst hcs
  refine ⟨_, hat2, by simp, fun i u hu => ?_⟩
  rw [Array.getElem?_setIfInBounds] at hu
  split at hu
  · rename_i hio
    subst hio
    split at hu
    · cases hu; exact .inr ⟨rfl, rfl⟩
    · cases hu
  · exact .inl hu
theorem det_cell2 {St Dn : World → World → Prop} {b : Nat} {N : Nat → Prop} {e : TypeId} {F : Nat → Value → Prop} {w0 : World} {rest : Value → (World → Prop) → Prop} {t : TypeId} {o : Nat} {v : Value} (hst : ∀ a c, St a c → Sto b N e F a c) (hdn : ∀ a c, Sto b no e (fun i u => i = o ∧ u = v) a c → Dn a c)
    (hs : ∀ w, (sizeOf t).run P w = .ok 1 w) (hv : v.oneCell' = true) (h0 : ∃ cs, At w0 b (.cells cs e (0, 0)) ∧ o < cs.size) (hF : ∀ u, F o u → u = v) (hk : rest undef fun w => ∃ cs, At w b (.cells cs e (0, 0)) ∧ cs[o]? = some v) :
    DetOp St Dn w0 (fun w1 K => DoU P (Instr.storeAt t (.pointer (some ⟨b, o, none⟩)) v) w1 K X) rest := by
  obtain ⟨cs0, hat0, hsz0⟩ := h0
  refine ⟨undef, _, fun a c hat hr => ?_, fun w1 hr => ?_, hk⟩
  · obtain ⟨cs, hat, hcs⟩ := hat
    obtain ⟨cs', h2, h3, h4⟩ := (hst _ _ hr).2 _ hat
    have hlt : o < cs'.size := by
      rw [h3]
      exact (Array.getElem?_eq_some_iff.1 hcs).1
    refine ⟨cs', h2, ?_⟩
    rw [Array.getElem?_eq_getElem hlt]
    rcases h4 o _ (Array.getElem?_eq_getElem hlt) with h | h
    · rw [hcs] at h; exact h.symm
    · rw [hF _ h]
  · obtain ⟨cs1, hat1, hsz1, hc1⟩ := (hst _ _ hr).2 cs0 hat0
    exact store_i hs hat1 (by omega) hv fun w2 m2 hat2 _ => ⟨rfl, hdn _ _ (sto_cell hat1 hat2 m2), _, hat2, by simp [show o < cs1.size by omega]⟩
theorem Sto.done {b : Nat} {N : Nat → Prop} {e : TypeId} {F : Nat → Value → Prop} {w0 W : World} {cs0 cs1 : Array Value} (h : Sto b N e F w0 W) (h0 : At w0 b (.cells cs0 e (0, 0))) (hsz : cs1.size = cs0.size)
    (hc : ∀ i u, cs1[i]? = some u → (∃ cs, At W b (.cells cs e (0, 0)) ∧ cs[i]? = some u) ∨ ((∀ u, ¬ F i u) ∧ cs0[i]? = some u)) : At W b (.cells cs1 e (0, 0)) := by
  obtain ⟨cs', h2, h3, h4⟩ := h.2 _ h0
  have : cs' = cs1 := by
    refine Array.ext (by omega) fun i hi1 hi2 => ?_
    rcases hc i _ (Array.getElem?_eq_getElem hi2) with ⟨cs, hcs, hu⟩ | ⟨hn, hu⟩
    · unfold At at hcs h2
      rw [h2] at hcs
      simp only [Option.some.injEq, Obj.cells.injEq, true_and, and_true] at hcs
      subst hcs
      rw [Array.getElem?_eq_getElem hi1] at hu
      exact Option.some.inj hu
    · rcases h4 i _ (Array.getElem?_eq_getElem hi1) with h | h
      · rw [hu] at h; exact (Option.some.inj h).symm
      · exact absurd h (hn _)
  rw [← this]; exact h2
theorem ext_mod {w0 w W : World} {b : Nat} (hx : Ext w0 w) (hb : w0.heap.size ≤ b) (hm : Mod (fun j => j = b ∨ w.heap.size ≤ j) w W) : Ext w0 W :=
  ((Mod.of_ext hx : Mod (w0.heap.size ≤ ·) w0 w).comp hm (fun _ _ h => h) (fun k _ hk => hk.elim (fun e => by subst e; exact hb) fun h => by have := hx.size; omega) : Mod (w0.heap.size ≤ ·) w0 W).new
end Sh
end Go.Proofs.YtoeblipchoglaaaGreatDoor

/- The plain laws of vehicles: what is given out is small enough, the example of the chapter. -/
import Derived.Test.YtoeblipchoglaaaGreatDoorZVehH
namespace Go.Proofs.YtoeblipchoglaaaGreatDoor
set_option maxRecDepth 100000
set_option maxHeartbeats 4000000
open Sh Go.RowKit
theorem VehOk.zero : VehOk Veh.zero := ⟨⟨by decide, by decide⟩, ⟨by decide, by decide⟩, nolog_ok, ⟨by decide, by decide⟩, ⟨by decide, by decide⟩, ⟨by decide, by decide⟩⟩
theorem putV_zero {v : Veh.V} {r : SRecord} {f : Veh.V → List UInt8 → Veh.V} (h : (Veh.putV v r f).2 ≠ 0) : (Veh.putV v r f).1 = Veh.zero := by
  unfold Veh.putV at h ⊢
  split
  · rename_i h0; rw [if_pos h0] at h; exact absurd rfl h
  · rfl
theorem Veh.write_zero {v : Veh.V} {e : SEntry} (h : (Veh.writeV v e).2 ≠ 0) : (Veh.writeV v e).1 = Veh.zero := by
  unfold Veh.writeV at h ⊢
  split
  · rfl
  · rename_i h0
    rw [if_neg h0] at h
    split
    · rfl
    · rename_i h1
      rw [if_neg h1] at h
      split
      · rfl
      · rename_i h2
        rw [if_neg h2] at h
        exact putV_zero h
theorem Veh.mark_zero {v : Veh.V} (h : (Veh.markV v).2 ≠ 0) : (Veh.markV v).1 = Veh.zero := by
  unfold Veh.markV at h ⊢
  split
  · rfl
  · rename_i h0
    rw [if_neg h0] at h
    split
    · rfl
    · rename_i h1
      rw [if_neg h1] at h
      exact putV_zero h
theorem VehOk.write {v : Veh.V} {e : SEntry} (h : VehOk v) (he : e.Ok) : VehOk (Veh.writeV v e).1 := by
  by_cases h0 : (Veh.writeV v e).2 = 0
  · obtain ⟨_, _, e1, _⟩ := Veh.write_ok he h0
    rw [e1]
    refine ⟨h.1, h.2.1, ⟨h.2.2.1.1, h.2.2.1.2.1, fun x hx => ?_⟩, h.2.2.2⟩
    rcases List.mem_append.1 hx with hx | hx
    · exact h.2.2.1.2.2 x hx
    · rw [List.mem_singleton] at hx; subst hx; exact he
  · rw [Veh.write_zero h0]; exact VehOk.zero
theorem VehOk.mark {v : Veh.V} (h : VehOk v) : VehOk (Veh.markV v).1 := by
  by_cases h0 : (Veh.markV v).2 = 0
  · obtain ⟨_, _, r, e1, hx, _⟩ := Veh.mark_ok h0
    have hu : (Veh.markV v).1.up = true := by rw [e1]; assumption
    have := (Veh.up_of hx hu).2.2.2.2.1
    rw [e1] at this ⊢
    have : (v.b ++ Jou.frameOf r).length ≤ 200000 := this
    exact ⟨h.1, h.2.1, h.2.2.1, show I64 ((v.b ++ Jou.frameOf r).length : Int) by unfold I64; omega, h.2.2.2.2⟩
  · rw [Veh.mark_zero h0]; exact VehOk.zero
theorem VehOk.crash {v : Veh.V} (h : VehOk v) (n : Int) : VehOk (Veh.crashV v n).1 := by
  unfold Veh.crashV
  split
  · exact VehOk.zero
  · split
    · exact VehOk.zero
    · split
      · exact VehOk.zero
      · exact ⟨h.1, h.2.1, ⟨h.2.2.1.1, h.2.2.1.2.1, fun x hx => by simp at hx⟩, h.2.2.2⟩
theorem Veh.says_ok {b : List UInt8} {id : Int} {o : List SEntry} (h : Veh.says b id = some o) : ∀ e ∈ o, e.Ok :=
  Veh.keptL_ok _ (fun r hr => ((Veh.load_inv b).1 r hr).2) (fun e he => by simp at he) (Veh.says_iff.1 h).2.1
theorem VehOk.wake {v : Veh.V} (h : VehOk v) : VehOk (Veh.wakeV v).1 := by
  unfold Veh.wakeV
  split
  · exact VehOk.zero
  · split
    · exact VehOk.zero
    · rename_i h0 h1
      have hV := Veh.valid_iff.1 (show Veh.valid v = true by simpa using h0)
      obtain ⟨o, ho, _⟩ := hV.2.2.1
      have h2 := (Veh.load_inv v.b).2.2.2.1
      have h3 := (Veh.says_iff.1 ho).1
      refine ⟨h.1, h.2.1, ⟨h.2.2.1.1, h.2.2.1.2.1, ?_⟩, show I64 ((Jou.load v.b).2 : Int) by unfold I64; omega, h.2.2.2.2⟩
      show ∀ e ∈ (Veh.says v.b v.id).getD [], e.Ok
      rw [ho]
      exact Veh.says_ok ho
namespace Veh
theorem jput_go {b : List UInt8} {r : SRecord} (hf : Jou.form r = true) (hr : r.Ok) (hb : b.length ≤ 190000) : jputV b r = (b ++ Jou.frameOf r, 0) := jputV_ok hf (by have := jframe_few hr; omega)
theorem write_go {v : V} {e : SEntry} (h : Valid v) (hu : v.up = true) (hf : Rep.formed e = true) (hn : nextOk v.log.ents e = true) (he : e.Ok) (hb : v.b.length ≤ 190000) : (writeV v e).2 = 0 := by
  unfold writeV
  rw [if_neg (by rw [valid_iff.2 h, hf]; simp), if_neg (by rw [hu]; simp), if_neg (by rw [hn]; simp), putV, jput_go (ent_form hf) (ent_ok he) hb, if_pos rfl]
theorem mark_go {v : V} (h : Valid v) (hu : v.up = true) (hb : v.b.length ≤ 190000) : (markV v).2 = 0 := by
  unfold markV
  obtain ⟨q1, q2⟩ := chk_ok (ents_small h) (Rep.carry (Rep.begin v.id) v.log.ents)
  rw [if_neg (by rw [valid_iff.2 h]; simp), if_neg (by rw [hu]; simp), putV, jput_go q1 q2 hb, if_pos rfl]
theorem wake_valid {v : V} (h : Valid v) (hu : v.up = false) : Valid (wakeV v).1 ∧ (wakeV v).1.up = true := by
  obtain ⟨o, ho, e⟩ := wake_ok h hu
  rw [e]
  obtain ⟨hfo, ht, hw, hwl, _⟩ := load_inv v.b
  have hl : Jou.load (v.b.take (Jou.load v.b).2) = ((Jou.load v.b).1, (Jou.load v.b).2) := by
    rw [ht, Jou.load_all (fun r hr => (hfo r hr).1) fun r hr => (hfo r hr).2, hw]
  obtain ⟨s1, s2, s3, s4⟩ := says_iff.1 ho
  refine ⟨⟨h.1, ⟨?_, h.2.1.2⟩, ⟨o, ?_, ?_⟩, ?_⟩, rfl⟩
  · show Rep.Lg.valid ⟨v.log.veh, v.log.rs, o⟩ = true
    rw [Rep.valid_with h.2.1.1]; exact s3
  · show says (v.b.take (Jou.load v.b).2) v.id = _
    refine says_iff.2 ⟨by rw [List.length_take]; omega, by rw [hl]; exact s2, s3, by rw [hl]; exact s4⟩
  · show (if true = true then (Jou.load (v.b.take (Jou.load v.b).2)).2 = (v.b.take (Jou.load v.b).2).length ∧ o = o else _)
    rw [if_pos rfl, hl, List.length_take]
    exact ⟨by show (Jou.load v.b).2 = _; omega, rfl⟩
  · show ends (Jou.load (v.b.take (Jou.load v.b).2)).1 ((Jou.load v.b).2 : Int) = true
    rw [hl, hw]
    exact ends_full _
def exE (n : Int) : SEntry := ⟨n, 10 * n, 3, 1, 7, 0, 0, ⟨5, 50⟩, 0, 0, 0⟩
def exRs : List (List SPoint) := [[⟨2, 0⟩]]
def ex0 : V := ⟨3, 1, ⟨3, exRs, []⟩, [], 0, true, 0, 0⟩
theorem exRs_valid : regValid exRs = true := by
  have h : Hul.valid [⟨2, 0⟩] = true := by
    unfold Hul.valid
    refine @decide_eq_true _ (_) ?_
    refine ⟨⟨⟨by decide, by decide⟩, fun p hp => ?_, fun i h1 h2 => ?_⟩, fun h => ?_⟩
    · rw [List.mem_singleton] at hp; subst hp; rfl
    · have h2 : i < 1 := h2
      omega
    · have h : 3 ≤ 1 := h
      omega
  unfold regValid exRs
  rw [List.all_cons, h]; rfl
theorem ex_new : newV 3 1 exRs = (ex0, 0) := by
  unfold newV
  rw [if_pos ⟨by decide, by decide, exRs_valid, by decide⟩]; rfl
theorem ex_ok (n : Int) (h : 1 ≤ n ∧ n ≤ 5) : (exE n).Ok := by
  unfold SEntry.Ok exE SSpan.Ok I64
  refine ⟨?_, ?_, ?_, ?_, ?_, ?_, ?_, ⟨?_, ?_⟩, ?_, ?_, ?_⟩ <;> constructor <;> (try dsimp only) <;> omega
theorem ex_form1 : Rep.formed (exE 1) = true := by decide
theorem ex_form2 : Rep.formed (exE 2) = true := by decide
theorem ex_form3 : Rep.formed (exE 3) = true := by decide
theorem ex_form5 : Rep.formed (exE 5) = true := by decide
theorem ex0_valid : Valid ex0 := by
  refine ⟨⟨⟨by decide, by decide⟩, ⟨by decide, by decide⟩, ⟨by decide, by decide⟩, .inl rfl⟩, ⟨?_, rfl⟩, ⟨[], says_nil _, ?_⟩, ?_⟩
  · show Rep.Lg.valid ⟨3, exRs, []⟩ = true
    unfold Rep.Lg.valid Rep.valid
    show (Rep.isID 3 && (decide (0 < exRs.length) && (regValid exRs && Rep.follows [] 1))) = true
    rw [exRs_valid]; decide
  · show (if true = true then (Jou.load []).2 = ([] : List UInt8).length ∧ ([] : List SEntry) = [] else _)
    rw [if_pos rfl, Jou.load_nil]; exact ⟨rfl, rfl⟩
  · show ends (Jou.load []).1 0 = true
    rw [Jou.load_nil]; decide
structure Ex (v : V) (n : Nat) (es : List SEntry) : Prop where
  ok : Valid v
  up : v.up = true
  ents : v.log.ents = es
  len : v.b.length ≤ n
theorem Ex.write {v : V} {n : Nat} {es : List SEntry} (h : Ex v n es) {e : SEntry} (he : e.Ok) (hf : Rep.formed e = true) (hn : nextOk es e = true) (hb : n ≤ 190000) :
    (writeV v e).2 = 0 ∧ Ex (writeV v e).1 (n + 400) (es ++ [e]) ∧ (writeV v e).1.sure = v.sure ∧ v.b.length < (writeV v e).1.b.length ∧ (writeV v e).1.b.take v.b.length = v.b ∧ (writeV v e).1.id = v.id := by
  have h0 := write_go h.ok h.up hf (by rw [h.ents]; exact hn) he (by have := h.len; omega)
  obtain ⟨_, _, e1, e2, _⟩ := write_ok he h0
  have hfr := jframe_few (ent_ok he)
  have hl : (writeV v e).1.b.length = v.b.length + (Jou.frameOf (ent e)).length := by rw [e1]; show (v.b ++ Jou.frameOf (ent e)).length = _; rw [List.length_append]
  refine ⟨h0, ⟨e2, by rw [e1]; exact h.up, by rw [e1]; show v.log.ents ++ [e] = _; rw [h.ents], by have := h.len; omega⟩, by rw [e1], by omega, by rw [e1]; show (v.b ++ Jou.frameOf (ent e)).take v.b.length = _; rw [List.take_left' rfl], by rw [e1]⟩
theorem Ex.mark {v : V} {n : Nat} {es : List SEntry} (h : Ex v n es) (hb : n ≤ 190000) :
    (markV v).2 = 0 ∧ Ex (markV v).1 (n + 400) es ∧ (markV v).1.sure = ((markV v).1.b.length : Int) ∧ 0 < (markV v).1.b.length ∧ (markV v).1.id = v.id := by
  have h0 := mark_go h.ok h.up (by have := h.len; omega)
  obtain ⟨_, _, r, e1, e2, hr, _⟩ := mark_ok h0
  have hfr := jframe_few hr
  have hl : (markV v).1.b.length = v.b.length + (Jou.frameOf r).length := by rw [e1]; show (v.b ++ Jou.frameOf r).length = _; rw [List.length_append]
  exact ⟨h0, ⟨e2, by rw [e1]; exact h.up, by rw [e1]; exact h.ents, by have := h.len; omega⟩, by rw [e1], by omega, by rw [e1]⟩
theorem ex0_ex : Ex ex0 0 [] := ⟨ex0_valid, rfl, rfl, by decide⟩
noncomputable def ex1 : V := (writeV ex0 (exE 1)).1
noncomputable def ex2 : V := (writeV ex1 (exE 2)).1
noncomputable def ex3 : V := (markV ex2).1
noncomputable def ex4 : V := (writeV ex3 (exE 3)).1
theorem ex_all : (writeV ex0 (exE 1)).2 = 0 ∧ (writeV ex1 (exE 2)).2 = 0 ∧ (markV ex2).2 = 0 ∧ (writeV ex3 (exE 3)).2 = 0 ∧ (writeV ex4 (exE 5)).2 = 7 ∧ ex4.sure ≠ 0 ∧ ex4.sure < ex4.b.length ∧
    (crashV ex4 ex4.sure).2 = 0 ∧ (markV (crashV ex4 ex4.sure).1).2 = 6 ∧ (wakeV (crashV ex4 ex4.sure).1).2 = 0 ∧ (crashV ex4 ex4.b.length).2 = 0 ∧ (wakeV (crashV ex4 ex4.b.length).1).2 = 0 ∧
    (wakeV (wakeV (crashV ex4 ex4.b.length).1).1).2 = 6 ∧ (crashV ex4 (ex4.sure - 1)).2 = 1 ∧ (wakeV (crashV ex4 ex4.sure).1).1.log.ents.length = 2 ∧ (wakeV (crashV ex4 ex4.sure).1).1.up = true ∧
    (wakeV (crashV ex4 ex4.b.length).1).1.log.ents = ex4.log.ents ∧ -1000000 ≤ ex4.sure ∧ ex4.sure ≤ 1000000 ∧ ex4.b.length ≤ 1000000 := by
  obtain ⟨a1, a2, _, _, _, _⟩ := ex0_ex.write (ex_ok 1 (by decide)) ex_form1 (by decide) (by decide)
  obtain ⟨b1, b2, _, _, _, _⟩ := Ex.write (v := ex1) a2 (ex_ok 2 (by decide)) ex_form2 (by decide) (by decide)
  obtain ⟨c1, c2, c3, c4, c5⟩ := Ex.mark (v := ex2) b2 (by decide)
  obtain ⟨d1, d2, d3, d4, d5, d6⟩ := Ex.write (v := ex3) c2 (ex_ok 3 (by decide)) ex_form3 (by decide) (by decide)
  have d2 : Ex ex4 _ _ := d2
  have d3 : ex4.sure = ex3.sure := d3
  have c3 : ex3.sure = (ex3.b.length : Int) := c3
  have d4 : ex3.b.length < ex4.b.length := d4
  have d5 : ex4.b.take ex3.b.length = ex3.b := d5
  have d6 : ex4.id = ex3.id := d6
  have c4 : 0 < ex3.b.length := c4
  have hlen := d2.len
  have hs : ex4.sure = (ex3.b.length : Int) := by rw [d3, c3]
  have k1 := crash_ok d2.ok d2.up (at_ := ex3.b.length) (by omega) (by omega)
  have k2 := crash_ok d2.ok d2.up (at_ := ex4.b.length) (by omega) (Nat.le_refl _)
  have hup3 := up_of (v := ex3) c2.ok c2.up
  have hup4 := up_of d2.ok d2.up
  obtain ⟨o1, ho1, w1⟩ := wake_ok k1.2.1 (by rw [k1.1])
  obtain ⟨o2, ho2, w2⟩ := wake_ok k2.2.1 (by rw [k2.1])
  have e1 : o1 = ex3.log.ents := by
    rw [k1.1] at ho1
    have ho1 : says (ex4.b.take ex3.b.length) ex4.id = some o1 := ho1
    rw [d5, d6, hup3.2.2.2.2.2] at ho1
    cases ho1; rfl
  have e2 : o2 = ex4.log.ents := by
    rw [k2.1] at ho2
    have ho2 : says (ex4.b.take ex4.b.length) ex4.id = some o2 := ho2
    rw [List.take_length, hup4.2.2.2.2.2] at ho2
    cases ho2; rfl
  have hv1 := k1.2.1
  have hwv := wake_valid k2.2.1 (by rw [k2.1])
  rw [hs]
  refine ⟨a1, b1, c1, d1, ?_, by omega, by omega, by rw [k1.1], ?_, by rw [w1], by rw [k2.1], by rw [w2], ?_, ?_, by rw [w1, e1, show ex3.log.ents = _ from c2.ents]; rfl, by rw [w1], by rw [w2, e2], by omega, by omega, by omega⟩
  · unfold writeV
    rw [if_neg (by rw [valid_iff.2 d2.ok, ex_form5]; simp), if_neg (by rw [d2.up]; simp), if_pos (by rw [d2.ents]; decide)]
  · unfold markV
    rw [if_neg (by rw [valid_iff.2 hv1]; simp), if_pos (by rw [k1.1])]
  · rw [wakeV, if_neg (by rw [valid_iff.2 hwv.1]; simp), if_pos hwv.2]
  · unfold crashV
    rw [if_neg (by rw [valid_iff.2 d2.ok]; simp), if_neg (by rw [d2.up]; simp), if_pos (.inl (by omega))]
end Veh
end Go.Proofs.YtoeblipchoglaaaGreatDoor

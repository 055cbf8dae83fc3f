/- The plain laws of vehicles: what bytes say, which are valid, and what each function gives. -/
import Derived.Test.YtoeblipchoglaaaGreatDoorZRepJ
import Derived.Test.YtoeblipchoglaaaGreatDoorZJouB
namespace Go.Proofs.YtoeblipchoglaaaGreatDoor
set_option maxRecDepth 100000
set_option maxHeartbeats 1000000
open Sh Go.RowKit
namespace Veh
theorem keptL_append : ∀ (a b : List SRecord) (out : List SEntry), Jou.keptL out (a ++ b) = (Jou.keptL out a).bind fun o => Jou.keptL o b
  | [], b, out => rfl
  | r :: a, b, out => by
    simp only [List.cons_append, Jou.keptL]
    split
    · split
      · exact keptL_append a b _
      · rfl
    · split
      · exact keptL_append a b _
      · rfl
theorem load_inv (b : List UInt8) : (∀ r ∈ (Jou.load b).1, Jou.form r = true ∧ r.Ok) ∧ b.take (Jou.load b).2 = Jou.bytes (Jou.load b).1 ∧ (Jou.load b).2 = (Jou.bytes (Jou.load b).1).length ∧ (Jou.load b).2 ≤ b.length ∧ (Jou.load b).1.length ≤ b.length := by
  obtain ⟨hc1, hc2⟩ := Cod.frames_count b
  obtain ⟨hi1, hi2⟩ := Cod.frames_inv b
  obtain ⟨q1, q2, q3, q4⟩ := Jou.loadL_size (Cod.frames b).1 fun l hl => (hi2 l hl).1
  have hc3 := Cod.frames_len b
  have q2 : (Jou.load b).1.length ≤ (Cod.frames b).1.length := q2
  have q4 : (Jou.load b).2 = (Jou.bytes (Jou.load b).1).length := q4
  have e2 : Jou.bytes (Jou.load b).1 = Cod.all ((Cod.frames b).1.take (Jou.load b).1.length) := by
    show Cod.all ((Jou.load b).1.map Jou.ints) = _
    rw [show (Jou.load b).1.map Jou.ints = _ from q3]; rfl
  have e3 : Cod.all (Cod.frames b).1 = Cod.all ((Cod.frames b).1.take (Jou.load b).1.length) ++ Cod.all ((Cod.frames b).1.drop (Jou.load b).1.length) := by rw [← Cod.all_append, List.take_append_drop]
  have e4 := congrArg List.length e3
  rw [List.length_append, ← e2] at e4
  refine ⟨q1, ?_, q4, by omega, by omega⟩
  have e5 : b.take (Jou.load b).2 = (b.take (Cod.frames b).2).take (Jou.load b).2 := by rw [List.take_take, Nat.min_eq_left (by omega)]
  rw [e5, hi1, e3, ← e2, q4, List.take_left' rfl]
structure V where
  id : Int
  ver : Int
  log : Rep.Lg
  b : List UInt8
  sure : Int
  up : Bool
  used : Int
  mode : Int
def zero : V := ⟨0, 0, ⟨0, [], []⟩, [], 0, false, 0, 0⟩
def chained (c : BitVec 64) : List SRecord → Bool
  | [] => true
  | r :: rs => if r.kind = 2 then decide (r.chain = c) && chained c rs else chained (Rep.carry c [r.entry]) rs
def ends (rs : List SRecord) (s : Int) : Bool := (List.range (rs.length + 1)).any fun k => decide (s = ((Jou.bytes (rs.take k)).length : Int))
def says (b : List UInt8) (id : Int) : Option (List SEntry) := if 200000 < b.length then none else match Jou.kept (Jou.load b).1 with
  | none => none
  | some o => if Rep.follows o 1 = true ∧ chained (Rep.begin id) (Jou.load b).1 = true then some o else none
def Nums (v : V) : Prop := (1 ≤ v.id ∧ v.id ≤ 1000000) ∧ (1 ≤ v.ver ∧ v.ver ≤ 1000000) ∧ (0 ≤ v.used ∧ v.used ≤ 1000000000) ∧ (v.mode = 0 ∨ v.mode = 1)
def Valid (v : V) : Prop := Nums v ∧ (v.log.valid = true ∧ v.log.veh = v.id) ∧ (∃ o, says v.b v.id = some o ∧ (if v.up = true then (Jou.load v.b).2 = v.b.length ∧ o = v.log.ents else v.log.ents = [])) ∧ ends (Jou.load v.b).1 v.sure = true
noncomputable def valid (v : V) : Bool := @decide (Valid v) (Classical.propDecidable _)
theorem valid_iff {v : V} : valid v = true ↔ Valid v := by unfold valid; exact @decide_eq_true_iff _ (Classical.propDecidable _)
theorem valid_f {v : V} : valid v = false ↔ ¬ Valid v := by rw [← valid_iff]; simp
noncomputable def newV (id ver : Int) (rs : List (List SPoint)) : V × Int := if Rep.isID id = true ∧ Rep.isID ver = true ∧ regValid rs = true ∧ 0 < rs.length then (⟨id, ver, ⟨id, rs, []⟩, [], 0, true, 0, 0⟩, 0) else (zero, 1)
def putV (v : V) (r : SRecord) (f : V → List UInt8 → V) : V × Int := if (jputV v.b r).2 = 0 then (f v (jputV v.b r).1, 0) else (zero, (jputV v.b r).2)
def nextOk (l : List SEntry) (e : SEntry) : Bool := decide (e.seq = (l.length : Int) + 1) && (decide (l.length = 0) || decide ((Rep.el l (l.length - 1)).time ≤ e.time))
noncomputable def writeV (v : V) (e : SEntry) : V × Int :=
  if valid v = false ∨ Rep.formed e = false then (zero, 1) else if v.up = false then (zero, 6) else if nextOk v.log.ents e = false then (zero, 7)
  else putV v (ent e) fun v b => { v with b := b, log := ⟨v.log.veh, v.log.rs, v.log.ents ++ [e]⟩ }
noncomputable def markV (v : V) : V × Int :=
  if valid v = false then (zero, 1) else if v.up = false then (zero, 6) else putV v (chk v.log.ents.length (Rep.carry (Rep.begin v.id) v.log.ents)) fun v b => { v with b := b, sure := b.length }
noncomputable def crashV (v : V) (n : Int) : V × Int :=
  if valid v = false then (zero, 1) else if v.up = false then (zero, 6) else if n < v.sure ∨ (v.b.length : Int) < n then (zero, 1)
  else ({ v with b := v.b.take n.toNat, log := ⟨v.log.veh, v.log.rs, []⟩, up := false }, 0)
noncomputable def wakeV (v : V) : V × Int :=
  if valid v = false then (zero, 1) else if v.up = true then (zero, 6)
  else ({ v with b := v.b.take (Jou.load v.b).2, sure := (Jou.load v.b).2, log := ⟨v.log.veh, v.log.rs, (says v.b v.id).getD []⟩, up := true }, 0)
theorem kept_chain : ∀ (a : List SRecord) {out o : List SEntry}, (∀ r ∈ a, Jou.form r = true) → Jou.keptL out a = some o → ∃ es, o = out ++ es ∧ ∀ (c : BitVec 64) (b : List SRecord), chained c (a ++ b) = (chained c a && chained (Rep.carry c es) b)
  | [], out, o, _, h => ⟨[], by simp [Jou.keptL] at h; simp [h], fun c b => by simp [chained, Rep.carry]⟩
  | r :: a, out, o, hf, h => by
    have hk := form_kind (hf r (by simp))
    have hf' : ∀ r ∈ a, Jou.form r = true := fun r hr => hf r (by simp [hr])
    unfold Jou.keptL at h
    split at h
    · rename_i h1
      split at h
      · obtain ⟨es, rfl, hc⟩ := kept_chain a hf' h
        refine ⟨r.entry :: es, by simp, fun c b => ?_⟩
        have h2 : ¬ r.kind = 2 := by omega
        simp only [List.cons_append, chained, if_neg h2]
        rw [hc, ← Rep.carry_append]; rfl
      · cases h
    · rename_i h1
      split at h
      · obtain ⟨es, rfl, hc⟩ := kept_chain a hf' h
        refine ⟨es, rfl, fun c b => ?_⟩
        have h2 : r.kind = 2 := by omega
        simp only [List.cons_append, chained, if_pos h2]
        rw [hc, Bool.and_assoc]
      · cases h
theorem chained_iff : ∀ (a : List SRecord) {out o : List SEntry} {c : BitVec 64}, (∀ r ∈ a, Jou.form r = true) → Jou.keptL out a = some o → (chained (Rep.carry c out) a = true ↔ ∀ r ∈ a, r.kind = 2 → Rep.carry c (o.take r.seq.toNat) = r.chain)
  | [], out, o, c, _, h => by simp [chained]
  | r :: a, out, o, c, hf, h => by
    have hk := form_kind (hf r (by simp))
    have hf' : ∀ r ∈ a, Jou.form r = true := fun r hr => hf r (by simp [hr])
    unfold Jou.keptL at h
    split at h
    · rename_i h1
      split at h
      · have ih := chained_iff (c := c) a hf' h
        have h2 : ¬ r.kind = 2 := by omega
        simp only [chained, if_neg h2, List.mem_cons, forall_eq_or_imp]
        rw [← Rep.carry_append, ih]
        exact ⟨fun h => ⟨fun h3 => absurd h3 h2, h⟩, fun h => h.2⟩
      · cases h
    · rename_i h1
      split at h
      · rename_i hs
        have ih := chained_iff (c := c) a hf' h
        obtain ⟨es, rfl, _⟩ := kept_chain a hf' h
        have h2 : r.kind = 2 := by omega
        have e : (out ++ es).take r.seq.toNat = out := by rw [hs, Int.toNat_natCast, List.take_left' rfl]
        simp only [chained, if_pos h2, List.mem_cons, forall_eq_or_imp, Bool.and_eq_true, decide_eq_true_eq, ih, e]
        exact ⟨fun h => ⟨fun _ => h.1.symm, h.2⟩, fun h => ⟨(h.1 h2).symm, h.2⟩⟩
      · cases h
theorem ends_iff {rs : List SRecord} {s : Int} : ends rs s = true ↔ ∃ k, k ≤ rs.length ∧ s = ((Jou.bytes (rs.take k)).length : Int) := by
  simp only [ends, List.any_eq_true, List.mem_range, decide_eq_true_eq]
  exact ⟨fun ⟨k, h1, h2⟩ => ⟨k, by omega, h2⟩, fun ⟨k, h1, h2⟩ => ⟨k, by omega, h2⟩⟩
theorem bytes_mono (rs : List SRecord) {j k : Nat} (h : j ≤ k) : (Jou.bytes (rs.take j)).length ≤ (Jou.bytes (rs.take k)).length := by
  have e : rs.take k = rs.take j ++ (rs.take k).drop j := by
    have := (List.take_append_drop j (rs.take k)).symm
    rw [List.take_take, Nat.min_eq_left h] at this; exact this
  rw [e, Jou.bytes_append, List.length_append]; omega
theorem bytes_lt (rs : List SRecord) {j k : Nat} (h : j < k) (hj : j < rs.length) : (Jou.bytes (rs.take j)).length < (Jou.bytes (rs.take k)).length := by
  have h1 := bytes_mono rs (show j + 1 ≤ k by omega)
  rw [List.take_succ_eq_append_getElem hj, Jou.bytes_snoc, List.length_append] at h1
  have := frame_pos rs[j]
  omega
theorem ends_append {rs : List SRecord} {s : Int} (h : ends rs s = true) (ms : List SRecord) : ends (rs ++ ms) s = true := by
  obtain ⟨k, hk, hs⟩ := ends_iff.1 h
  refine ends_iff.2 ⟨k, by rw [List.length_append]; omega, ?_⟩
  rw [List.take_append_of_le_length hk]; exact hs
theorem ends_take {rs : List SRecord} {s : Int} {k : Nat} (hk : k ≤ rs.length) (h : ends rs s = true) (hs : s ≤ ((Jou.bytes (rs.take k)).length : Int)) : ends (rs.take k) s = true := by
  obtain ⟨j, hj, e⟩ := ends_iff.1 h
  rcases Nat.lt_or_ge k j with hlt | hge
  · have := bytes_lt rs hlt (by omega); omega
  · refine ends_iff.2 ⟨j, by rw [List.length_take]; omega, ?_⟩
    rw [List.take_take, Nat.min_eq_left hge]; exact e
theorem ends_full (rs : List SRecord) : ends rs ((Jou.bytes rs).length : Int) = true := ends_iff.2 ⟨rs.length, Nat.le_refl _, by rw [List.take_length]⟩
theorem ends_le {rs : List SRecord} {s : Int} (h : ends rs s = true) : 0 ≤ s ∧ s ≤ ((Jou.bytes rs).length : Int) := by
  obtain ⟨k, hk, e⟩ := ends_iff.1 h
  have := bytes_mono rs hk
  rw [List.take_length] at this
  omega
theorem says_iff {b : List UInt8} {id : Int} {o : List SEntry} : says b id = some o ↔ b.length ≤ 200000 ∧ Jou.kept (Jou.load b).1 = some o ∧ Rep.follows o 1 = true ∧ chained (Rep.begin id) (Jou.load b).1 = true := by
  unfold says
  split
  · simp; omega
  · split
    · rename_i h; rw [h]; simp
    · rename_i o' h
      rw [h]
      split
      · rename_i h2
        simp only [Option.some.injEq]
        exact ⟨fun e => by subst e; exact ⟨by omega, rfl, h2⟩, fun e => e.2.1⟩
      · rename_i h2
        simp only [Option.some.injEq, reduceCtorEq, false_iff, not_and]
        rintro _ rfl h3 h4
        exact h2 ⟨h3, h4⟩
theorem says_nil (id : Int) : says [] id = some [] := says_iff.2 ⟨by simp, by rw [Jou.load_nil]; rfl, by decide, by rw [Jou.load_nil]; rfl⟩
theorem up_of {v : V} (h : Valid v) (hu : v.up = true) : v.b = Jou.bytes (Jou.load v.b).1 ∧ Jou.kept (Jou.load v.b).1 = some v.log.ents ∧ Rep.follows v.log.ents 1 = true ∧ chained (Rep.begin v.id) (Jou.load v.b).1 = true ∧ v.b.length ≤ 200000 ∧ says v.b v.id = some v.log.ents := by
  obtain ⟨_, _, ⟨o, ho, hi⟩, _⟩ := h
  rw [if_pos hu] at hi
  obtain ⟨hw, rfl⟩ := hi
  obtain ⟨h1, h2, h3, h4⟩ := says_iff.1 ho
  obtain ⟨_, ht, _⟩ := load_inv v.b
  rw [hw, List.take_length] at ht
  exact ⟨ht, h2, h3, h4, h1, ho⟩
theorem valid_ents {v : V} (h : Valid v) : Rep.follows v.log.ents 1 = true := Rep.valid_fol h.2.1.1
theorem grow {v : V} (h : Valid v) (hu : v.up = true) {r : SRecord} (hr : Jou.form r = true ∧ r.Ok) {es : List SEntry} (hk : Jou.keptL v.log.ents [r] = some (v.log.ents ++ es)) (hc : chained (Rep.carry (Rep.begin v.id) v.log.ents) [r] = true)
    (hf : Rep.follows (v.log.ents ++ es) 1 = true) (hl : v.b.length + (Jou.frameOf r).length ≤ 200000) {s : Int} (hs : s = v.sure ∨ s = ((v.b ++ Jou.frameOf r).length : Int)) :
    Jou.load (v.b ++ Jou.frameOf r) = ((Jou.load v.b).1 ++ [r], (v.b ++ Jou.frameOf r).length) ∧ Valid { v with b := v.b ++ Jou.frameOf r, log := ⟨v.log.veh, v.log.rs, v.log.ents ++ es⟩, sure := s } := by
  obtain ⟨hb, h2, h3, h4, h5, _⟩ := up_of h hu
  obtain ⟨hfo, _, _⟩ := load_inv v.b
  have eb : v.b ++ Jou.frameOf r = Jou.bytes ((Jou.load v.b).1 ++ [r]) := by rw [Jou.bytes_snoc, ← hb]
  have hall : ∀ q ∈ (Jou.load v.b).1 ++ [r], Jou.form q = true ∧ q.Ok := fun q hq => by
    rcases List.mem_append.1 hq with hq | hq
    · exact hfo q hq
    · rw [List.mem_singleton] at hq; subst hq; exact hr
  have hld : Jou.load (v.b ++ Jou.frameOf r) = ((Jou.load v.b).1 ++ [r], (v.b ++ Jou.frameOf r).length) := by
    rw [eb]; exact Jou.load_all (fun q hq => (hall q hq).1) fun q hq => (hall q hq).2
  refine ⟨hld, h.1, ⟨?_, h.2.1.2⟩, ⟨v.log.ents ++ es, ?_, ?_⟩, ?_⟩
  · show Rep.Lg.valid ⟨v.log.veh, v.log.rs, v.log.ents ++ es⟩ = true
    rw [Rep.valid_with h.2.1.1]; exact hf
  · show says (v.b ++ Jou.frameOf r) v.id = _
    refine says_iff.2 ⟨by rw [List.length_append]; exact hl, ?_, hf, ?_⟩
    · rw [hld]
      show Jou.keptL [] ((Jou.load v.b).1 ++ [r]) = _
      rw [keptL_append, show Jou.keptL [] (Jou.load v.b).1 = _ from h2]; exact hk
    · rw [hld]
      obtain ⟨es', he, hcc⟩ := kept_chain (Jou.load v.b).1 (fun q hq => (hfo q hq).1) h2
      rw [List.nil_append] at he
      subst he
      rw [hcc, h4, hc]; rfl
  · show (if v.up = true then (Jou.load (v.b ++ Jou.frameOf r)).2 = (v.b ++ Jou.frameOf r).length ∧ v.log.ents ++ es = v.log.ents ++ es else _)
    rw [if_pos hu, hld]; exact ⟨rfl, rfl⟩
  · show ends (Jou.load (v.b ++ Jou.frameOf r)).1 s = true
    rw [hld]
    rcases hs with rfl | rfl
    · exact ends_append h.2.2.2 _
    · rw [eb]; exact ends_full _
theorem putV_ok {v : V} {r : SRecord} {f : V → List UInt8 → V} (h : (putV v r f).2 = 0) : Jou.form r = true ∧ v.b.length + (Jou.frameOf r).length ≤ 200000 ∧ (putV v r f).1 = f v (v.b ++ Jou.frameOf r) := by
  unfold putV at h ⊢
  split at h
  · rename_i h0
    rw [if_pos h0]
    unfold jputV at h0 ⊢
    split at h0
    · cases h0
    · rename_i hf
      split at h0
      · cases h0
      · rename_i hl
        rw [if_neg hf, if_neg hl]
        exact ⟨by simpa using hf, by omega, rfl⟩
  · rename_i h0; exact absurd h h0
theorem seq_of {e : SEntry} (h : Rep.formed e = true) : 1 ≤ e.seq ∧ e.seq ≤ 2000 := by
  have := of_decide_eq_true h
  exact ⟨this.1.1, this.1.2.1⟩
theorem nextOk_fol {l : List SEntry} {e : SEntry} (h : Rep.follows l 1 = true) (hf : Rep.formed e = true) (hn : nextOk l e = true) : Rep.follows (l ++ [e]) 1 = true := by
  have h1 : e.seq = (l.length : Int) + 1 := by simp only [nextOk, Bool.and_eq_true, decide_eq_true_eq] at hn; exact hn.1
  have h2 := seq_of hf
  rw [Rep.follows_snoc h (by omega) (by decide) (by decide), hf, decide_eq_true (show e.seq = 1 + (l.length : Int) by omega)]
  simp only [nextOk, Bool.and_eq_true] at hn
  rw [hn.2]; rfl
theorem ent_form {e : SEntry} (hf : Rep.formed e = true) : Jou.form (ent e) = true := by
  have h2 := seq_of hf
  unfold Jou.form ent
  rw [if_pos rfl]
  simp only [decide_eq_true_eq, Bool.and_eq_true]
  exact ⟨by omega, by omega, trivial, rfl⟩
theorem ent_ok {e : SEntry} (h : e.Ok) : (ent e).Ok := ⟨show I64 1 from ⟨by decide, by decide⟩, h, show I64 0 from ⟨by decide, by decide⟩, trivial⟩
theorem write_ok {v : V} {e : SEntry} (he : e.Ok) (h : (writeV v e).2 = 0) : Valid v ∧ v.up = true ∧ (writeV v e).1 = { v with b := v.b ++ Jou.frameOf (ent e), log := ⟨v.log.veh, v.log.rs, v.log.ents ++ [e]⟩ } ∧ Valid (writeV v e).1 ∧
    Jou.load (v.b ++ Jou.frameOf (ent e)) = ((Jou.load v.b).1 ++ [ent e], (v.b ++ Jou.frameOf (ent e)).length) := by
  unfold writeV at h ⊢
  split at h
  · cases h
  · rename_i h0
    rw [if_neg h0]
    split at h
    · cases h
    · rename_i h1
      rw [if_neg h1]
      split at h
      · cases h
      · rename_i h2
        rw [if_neg h2]
        have hv : Valid v := valid_iff.1 (by simpa using fun hh => h0 (.inl hh))
        have hf : Rep.formed e = true := by simpa using fun hh => h0 (.inr hh)
        have hu : v.up = true := by simpa using h1
        have hn : nextOk v.log.ents e = true := by simpa using h2
        obtain ⟨p1, p2, p3⟩ := putV_ok h
        rw [p3]
        have hs : e.seq = (v.log.ents.length : Int) + 1 := by simp only [nextOk, Bool.and_eq_true, decide_eq_true_eq] at hn; exact hn.1
        obtain ⟨g1, g2⟩ := grow hv hu (r := ent e) ⟨p1, ent_ok he⟩ (es := [e]) (by unfold ent; simp [Jou.keptL, hs]) (by unfold ent; simp [chained]) (nextOk_fol (valid_ents hv) hf hn) p2 (s := v.sure) (.inl rfl)
        exact ⟨hv, hu, rfl, g2, g1⟩
theorem chk_ok {n : Nat} (hn : n ≤ 2000) (c : BitVec 64) : Jou.form (chk n c) = true ∧ (chk n c).Ok := by
  constructor
  · unfold Jou.form chk
    rw [if_neg (show ¬ (2 : Int) = 1 by decide)]
    simp only [decide_eq_true_eq, Bool.and_eq_true]
    exact ⟨trivial, by omega, by omega, trivial⟩
  · refine ⟨show I64 2 from ⟨by decide, by decide⟩, ?_, show I64 n by unfold I64; omega, trivial⟩
    show SEntry.zero.Ok
    unfold SEntry.zero
    simp only [SEntry.Ok, SSpan.Ok, I64]
    omega
theorem mark_ok {v : V} (h : (markV v).2 = 0) : Valid v ∧ v.up = true ∧ ∃ r, (markV v).1 = { v with b := v.b ++ Jou.frameOf r, sure := ((v.b ++ Jou.frameOf r).length : Int) } ∧ Valid (markV v).1 ∧ r.Ok ∧
    Jou.load (v.b ++ Jou.frameOf r) = ((Jou.load v.b).1 ++ [r], (v.b ++ Jou.frameOf r).length) ∧ Jou.kept ((Jou.load v.b).1 ++ [r]) = some v.log.ents := by
  unfold markV at h ⊢
  split at h
  · cases h
  · rename_i h0
    rw [if_neg h0]
    split at h
    · cases h
    · rename_i h1
      rw [if_neg h1]
      have hv : Valid v := valid_iff.1 (by simpa using h0)
      have hu : v.up = true := by simpa using h1
      obtain ⟨p1, p2, p3⟩ := putV_ok h
      rw [p3]
      have hlen := (Rep.follows_iff.1 (valid_ents hv)).1
      obtain ⟨q1, q2⟩ := chk_ok hlen (Rep.carry (Rep.begin v.id) v.log.ents)
      have hk : Jou.keptL v.log.ents [chk v.log.ents.length (Rep.carry (Rep.begin v.id) v.log.ents)] = some (v.log.ents ++ []) := by unfold chk; simp [Jou.keptL]
      obtain ⟨g1, g2⟩ := grow hv hu ⟨q1, q2⟩ (es := []) hk (by unfold chk; simp [chained]) (by rw [List.append_nil]; exact valid_ents hv) p2 (.inr rfl)
      refine ⟨hv, hu, _, rfl, ?_, q2, g1, ?_⟩
      · rw [List.append_nil] at g2; exact g2
      · show Jou.keptL [] _ = _
        rw [keptL_append, show Jou.keptL [] (Jou.load v.b).1 = _ from (up_of hv hu).2.1]
        rw [List.append_nil] at hk; exact hk
theorem cut_at (rs : List SRecord) (at_ : Nat) : ∃ k, k ≤ rs.length ∧ (Jou.bytes (rs.take k)).length ≤ at_ ∧ (k < rs.length → at_ < (Jou.bytes (rs.take (k + 1))).length) := by
  have : ∀ m, m ≤ rs.length → ∃ k, k ≤ m ∧ (Jou.bytes (rs.take k)).length ≤ at_ ∧ (k < m → at_ < (Jou.bytes (rs.take (k + 1))).length) := fun m => by
    induction m with
    | zero => intro _; exact ⟨0, Nat.le_refl _, by simp [Jou.bytes_nil], fun h => by omega⟩
    | succ m ih =>
      intro hm
      obtain ⟨k, h1, h2, h3⟩ := ih (by omega)
      by_cases hk : k < m
      · exact ⟨k, by omega, h2, fun _ => h3 hk⟩
      · have : k = m := by omega
        subst this
        by_cases ha : (Jou.bytes (rs.take (k + 1))).length ≤ at_
        · exact ⟨k + 1, Nat.le_refl _, ha, fun h => by omega⟩
        · exact ⟨k, by omega, h2, fun _ => by omega⟩
  exact this rs.length (Nat.le_refl _)
theorem kept_part {a b : List SRecord} {o : List SEntry} (hf : ∀ r ∈ a ++ b, Jou.form r = true) (h : Jou.kept (a ++ b) = some o) : ∃ m, m ≤ o.length ∧ Jou.kept a = some (o.take m) := by
  unfold Jou.kept at h ⊢
  rw [keptL_append] at h
  cases ha : Jou.keptL [] a with
  | none => rw [ha] at h; cases h
  | some o1 =>
    rw [ha] at h
    obtain ⟨es, rfl, _⟩ := kept_chain b (fun r hr => hf r (by simp [hr])) h
    exact ⟨o1.length, by simp, by simp⟩
theorem crash_ok {v : V} (h : Valid v) (hu : v.up = true) {at_ : Nat} (h1 : v.sure ≤ at_) (h2 : at_ ≤ v.b.length) :
    (crashV v at_) = ({ v with b := v.b.take at_, log := ⟨v.log.veh, v.log.rs, []⟩, up := false }, 0) ∧ Valid (crashV v at_).1 ∧
    ∃ k, k ≤ (Jou.load v.b).1.length ∧ (Jou.load (v.b.take at_)).1 = (Jou.load v.b).1.take k ∧ (k < (Jou.load v.b).1.length → at_ < (Jou.bytes ((Jou.load v.b).1.take (k + 1))).length) := by
  obtain ⟨hb, hk, hf, hc, hl, _⟩ := up_of h hu
  obtain ⟨hfo, _, _⟩ := load_inv v.b
  have e : crashV v at_ = ({ v with b := v.b.take at_, log := ⟨v.log.veh, v.log.rs, []⟩, up := false }, 0) := by
    unfold crashV
    rw [if_neg (by rw [valid_iff.2 h]; decide), if_neg (by rw [hu]; decide), if_neg (by omega)]; rfl
  obtain ⟨k, k1, k2, k3⟩ := cut_at (Jou.load v.b).1 at_
  have hld : Jou.load (v.b.take at_) = ((Jou.load v.b).1.take k, (Jou.bytes ((Jou.load v.b).1.take k)).length) := by
    have := Jou.load_torn (rs := (Jou.load v.b).1) (fun r hr => (hfo r hr).1) (fun r hr => (hfo r hr).2) k2 k3
    rw [← hb] at this; exact this
  refine ⟨e, ?_, k, k1, by rw [hld], k3⟩
  rw [e]
  have etd : (Jou.load v.b).1 = (Jou.load v.b).1.take k ++ (Jou.load v.b).1.drop k := (List.take_append_drop k _).symm
  have hff : ∀ r ∈ (Jou.load v.b).1.take k ++ (Jou.load v.b).1.drop k, Jou.form r = true := fun r hr => by rw [← etd] at hr; exact (hfo r hr).1
  obtain ⟨m, hm, hkm⟩ := kept_part hff (by rw [← etd]; exact hk)
  refine ⟨h.1, ⟨?_, h.2.1.2⟩, ⟨v.log.ents.take m, ?_, ?_⟩, ?_⟩
  · show Rep.Lg.valid ⟨v.log.veh, v.log.rs, []⟩ = true
    rw [Rep.valid_with h.2.1.1]; decide
  · show says (v.b.take at_) v.id = _
    refine says_iff.2 ⟨by rw [List.length_take]; omega, by rw [hld]; exact hkm, Rep.follows_take hf hm, ?_⟩
    rw [hld]
    obtain ⟨es, _, hcc⟩ := kept_chain ((Jou.load v.b).1.take k) (fun r hr => (hfo r (List.mem_of_mem_take hr)).1) hkm
    have := hcc (Rep.begin v.id) ((Jou.load v.b).1.drop k)
    rw [← etd, hc] at this
    simp only [Bool.true_eq, Bool.and_eq_true] at this
    exact this.1
  · show (if false = true then _ else ([] : List SEntry) = [])
    rw [if_neg (by decide)]
  · show ends (Jou.load (v.b.take at_)).1 v.sure = true
    rw [hld]
    refine ends_take k1 h.2.2.2 ?_
    obtain ⟨j, hj, hs⟩ := ends_iff.1 h.2.2.2
    rcases Nat.lt_or_ge k j with hlt | hge
    · have h3 := k3 (by omega)
      have h4 := bytes_mono (Jou.load v.b).1 (show k + 1 ≤ j by omega)
      omega
    · have := bytes_mono (Jou.load v.b).1 hge
      omega
theorem wake_ok {v : V} (h : Valid v) (hu : v.up = false) : ∃ o, says v.b v.id = some o ∧ wakeV v = ({ v with b := v.b.take (Jou.load v.b).2, sure := (Jou.load v.b).2, log := ⟨v.log.veh, v.log.rs, o⟩, up := true }, 0) := by
  obtain ⟨o, ho, _⟩ := h.2.2.1
  refine ⟨o, ho, ?_⟩
  unfold wakeV
  rw [if_neg (by rw [valid_iff.2 h]; decide), if_neg (by rw [hu]; decide), ho]; rfl
structure Kept (rs : List SRecord) (es : List SEntry) (x : V) : Prop where
  ok : Valid x
  up : x.up = true
  sure : x.sure = ((Jou.bytes rs).length : Int)
  pre : rs <+: (Jou.load x.b).1
  kept : Jou.kept rs = some es
theorem Kept.mark {v : V} (h : (markV v).2 = 0) : ∃ rs, Kept rs v.log.ents (markV v).1 := by
  obtain ⟨hv, hu, r, e, hx, _, hl, hk⟩ := mark_ok h
  refine ⟨(Jou.load v.b).1 ++ [r], hx, by rw [e]; exact hu, ?_, ?_, hk⟩
  · rw [e]
    show ((v.b ++ Jou.frameOf r).length : Int) = _
    rw [Jou.bytes_snoc, ← (up_of hv hu).1]
  · rw [e]
    show _ <+: (Jou.load (v.b ++ Jou.frameOf r)).1
    rw [hl]; exact List.prefix_refl _
theorem Kept.write {rs : List SRecord} {es : List SEntry} {x : V} (h : Kept rs es x) {e : SEntry} (he : e.Ok) (hw : (writeV x e).2 = 0) : Kept rs es (writeV x e).1 := by
  obtain ⟨hv, hu, e1, hx, hl⟩ := write_ok he hw
  refine ⟨hx, by rw [e1]; exact hu, by rw [e1]; exact h.sure, ?_, h.kept⟩
  rw [e1]
  show _ <+: (Jou.load (x.b ++ Jou.frameOf (ent e))).1
  rw [hl]
  exact h.pre.trans (List.prefix_append _ _)
theorem Kept.crash {rs : List SRecord} {es : List SEntry} {x : V} (h : Kept rs es x) {at_ : Nat} (h1 : x.sure ≤ at_) (h2 : at_ ≤ x.b.length) : (crashV x at_).2 = 0 ∧ (wakeV (crashV x at_).1).2 = 0 ∧ es.length ≤ (wakeV (crashV x at_).1).1.log.ents.length ∧ (wakeV (crashV x at_).1).1.log.ents.take es.length = es := by
  obtain ⟨e, hc, k, k1, k2, k3⟩ := crash_ok h.ok h.up h1 h2
  obtain ⟨o, ho, hw⟩ := wake_ok hc (by rw [e])
  have hk := (says_iff.1 ho).2.1
  have eb : (crashV x at_).1.b = x.b.take at_ := by rw [e]
  rw [eb, k2] at hk
  obtain ⟨ms, hms⟩ := h.pre
  have hle : rs.length ≤ k := by
    rcases Nat.lt_or_ge k rs.length with hlt | hge
    · exfalso
      have hlr : rs.length ≤ (Jou.load x.b).1.length := by rw [← hms, List.length_append]; omega
      have h3 := k3 (by omega)
      have h4 := bytes_mono (Jou.load x.b).1 (show k + 1 ≤ rs.length by omega)
      have h5 : (Jou.load x.b).1.take rs.length = rs := by rw [← hms, List.take_left' rfl]
      rw [h5] at h4
      have := h.sure
      omega
    · exact hge
  have et : (Jou.load x.b).1.take k = rs ++ ms.take (k - rs.length) := by rw [← hms, List.take_append, List.take_of_length_le hle]
  rw [et] at hk
  obtain ⟨hfo, _⟩ := load_inv x.b
  have hfm : ∀ r ∈ ms.take (k - rs.length), Jou.form r = true := fun r hr => (hfo r (by rw [← hms]; exact List.mem_append.2 (.inr (List.mem_of_mem_take hr)))).1
  have hk2 : Jou.keptL [] (rs ++ ms.take (k - rs.length)) = some o := hk
  rw [keptL_append, show Jou.keptL [] rs = some es from h.kept] at hk2
  obtain ⟨es', rfl, _⟩ := kept_chain _ hfm hk2
  refine ⟨by rw [e], by rw [hw], ?_, ?_⟩
  · rw [hw]; show es.length ≤ (es ++ es').length; rw [List.length_append]; omega
  · rw [hw]; show (es ++ es').take es.length = es; rw [List.take_left' rfl]
end Veh
end Go.Proofs.YtoeblipchoglaaaGreatDoor

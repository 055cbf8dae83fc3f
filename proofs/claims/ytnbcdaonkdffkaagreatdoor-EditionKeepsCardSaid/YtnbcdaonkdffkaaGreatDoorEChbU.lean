/- The reference's At, Square, Touched, Beacon, Line, Digest. -/
import Derived.Test.YtnbcdaonkdffkaaGreatDoorEChbT
set_option linter.unusedVariables false
set_option linter.unusedSimpArgs false
namespace Go.Proofs.YtnbcdaonkdffkaaGreatDoor
set_option maxRecDepth 100000
set_option maxHeartbeats 16000000
open Sh Go.RowKit
def Turn2 (b : Nat) (S S' : Obj) (a c : World) : Prop := Mod (· = b) a c ∧ (At a b S → At c b S ∨ At c b S') ∧ (At a b S' → At c b S')
theorem Turn2.refl (b : Nat) (S S' : Obj) (a : World) : Turn2 b S S' a a := ⟨Mod.refl _ _, .inl, id⟩
theorem Turn2.trans {b : Nat} {S S' : Obj} {a c d : World} (h : Turn2 b S S' a c) (h' : Turn2 b S S' c d) : Turn2 b S S' a d :=
  ⟨h.1.trans h'.1, fun x => (h.2.1 x).elim h'.2.1 fun y => .inr (h'.2.2 y), fun x => h'.2.2 (h.2.2 x)⟩
theorem draw_turn2 {w : World} {body : (World → World → Prop) → (World → World → Prop) → World → Prop} (b : Nat) (S S' : Obj) (h : ∀ w0, Ext w w0 → w0.heap.size = w.heap.size → body (Turn2 b S S') (Turn2 b S S') w0) : DrawE w body :=
  ⟨_, _, ⟨fun a => Turn2.refl b S S' a, fun _ _ _ => Turn2.trans, fun _ _ h => h, fun _ _ _ => Turn2.trans⟩, h w.drew (Ext.drew w) rfl⟩
theorem det_turn2 {b : Nat} {S S' : Obj} {w0 : World} {op : World → (Value → World → Prop) → Prop} {rest : Value → (World → Prop) → Prop} (c : Value) (h : ∀ w1, Turn2 b S S' w0 w1 → ∀ K : Value → World → Prop, op w1 K = K c w1) (hk : rest c fun _ => True) : DetOp (Turn2 b S S') (Turn2 b S S') w0 op rest :=
  det_pure c (fun a => Turn2.refl b S S' a) (fun w1 h1 K hk => by rw [h w1 h1 K]; exact hk) hk
theorem two_new2 {p q : SPoint} {w : World} {K : Value → Value → World → Prop} {X1 X2 X3 X4 : List PanicEntry → World → Prop} (hk : ∀ a b W, Ext w W → At W a (.cells p.cells.toArray 28 (0, 0)) → At W b (.cells q.cells.toArray 28 (0, 0)) → w.heap.size ≤ a → w.heap.size ≤ b → K (.pointer (some ⟨a, 0, none⟩)) (.pointer (some ⟨b, 0, none⟩)) W) :
    DoV Tryz.prog (Instr.alloc 28 true (.tuple #[])) w (fun a w1 => DoV Tryz.prog (Instr.alloc 28 true (.tuple #[])) w1 (fun b w2 => DoU Tryz.prog (Instr.storeAt 28 a (.agg p.cells.toArray)) w2 (fun _ w3 => DoU Tryz.prog (Instr.storeAt 28 b (.agg q.cells.toArray)) w3 (fun _ w4 => K a b w4) X4) X3) X2) X1 := by
  refine alloc_i Ty.SPoint_zero fun a w1 x1 hat1 ha _ => ?_
  refine alloc_i Ty.SPoint_zero fun b w2 x2 hat2 hb _ => ?_
  have l1 := hat1.lt
  have z1 := x1.size
  refine SPoint.set (s := p) (r := SPoint.zero) (hat1.ext x2) fun w3 m3 h3 _ => ?_
  refine SPoint.set (s := q) (r := SPoint.zero) (hat2.mod m3 (by omega)) fun w4 m4 h4 _ => ?_
  exact hk _ _ _ (ext_step15 (ext_step15 (x1.trans x2) m3 (by omega)) m4 (by omega)) (h3.mod m4 (by omega)) h4 (by omega) (by omega)
theorem ints_i64 {C : Cht} (hG : Cha.GoodC C) (hok : ChartOk C) : ∀ n ∈ Cha.ints C, I64 n := by
  obtain ⟨hcl, hbl, hll, hpl⟩ := Cha.good_size hG
  intro n hn
  have small : ∀ k : Nat, k ≤ 4000 → I64 (k : Int) := fun k hk => ⟨by omega, by omega⟩
  unfold Cha.ints at hn
  simp only [List.mem_append, List.mem_cons, List.not_mem_nil, or_false, List.mem_flatMap] at hn
  obtain ⟨n1, n2, n3, n4, n5, n6⟩ := hok.nums
  rcases hn with ((((h | ⟨c, hc, h⟩) | h) | ⟨b, hb, h⟩) | h) | ⟨l, hl, h⟩
  · rcases h with rfl | rfl | rfl | rfl | rfl | rfl | rfl
    · exact n1
    · exact n2
    · exact n3
    · exact n4
    · exact n5
    · exact n6
    · exact small _ hcl
  · obtain ⟨⟨c1, c2⟩, c3, _⟩ := hok.cells c hc
    simp only [Cha.cellInts, List.mem_cons, List.not_mem_nil, or_false] at h
    rcases h with rfl | rfl | rfl | rfl
    · exact c1
    · exact c2
    · exact c3
    · split <;> (unfold I64; omega)
  · subst h; exact small _ (by omega)
  · obtain ⟨b1, b2, b3⟩ := hok.beacons b hb
    simp only [Cha.beaconInts, List.mem_cons, List.not_mem_nil, or_false] at h
    rcases h with rfl | rfl | rfl
    · exact b1
    · exact b2
    · exact b3
  · subst h; exact small _ (by omega)
  · obtain ⟨l1, l2⟩ := hok.lines l hl
    simp only [Cha.lineInts, List.mem_append, List.mem_cons, List.not_mem_nil, or_false, List.mem_flatMap, Cha.ptInts] at h
    rcases h with (rfl | rfl) | ⟨p, hp, rfl | rfl⟩
    · exact l1
    · exact small _ (by have := hpl l hl; omega)
    · exact (l2 p hp).1
    · exact (l2 p hp).2
open Cha in
theorem refDigest15_ret {s : SChart} {C : Cht} (w : World) (hc : ChartIs w s C) (hok : ChartOk C) : Ret Tryz.prog 28 #[.agg s.cells.toArray] w fun r w' => r = .tuple #[u64v (digestV C).1, .int .i64 (digestV C).2] ∧ Ext w w' := by
  refine ret_of (fun _ _ => sh_landfallref15_Digest_ok _) fun R hR => ?_
  unfold sh_landfallref15_Digest
  refine box_i fun g w1 x1 hat1 hg1 _ => ?_
  rw [SChart.g_all (has_of_at hat1)]
  refine callF_ret (refChValid_ret w1 (hc.ext x1)) ?_
  rintro _ w2 ⟨rfl, x2⟩
  rw [un_not]
  refine Br_i (fun hb => hR _ _ ⟨?_, x1.trans x2⟩) fun hb => ?_
  · have hn : ¬ GoodC C := fun h => by rw [valid_iff.2 h] at hb; cases hb
    unfold digestV; rw [if_neg hn]; rfl
  have hG := valid_iff.1 (nd hb)
  have hS := good_size hG
  rw [SChart.g_all (has_of_at (hat1.ext x2))]
  refine callF_ret (refInts_ret w2 (hc.ext (x1.trans x2)) hS) ?_
  rintro v w3 ⟨hv, x3⟩
  have hlen : (ints C).length ≤ 1000000000 := by
    obtain ⟨hcl, hbl, hll, hpl⟩ := hS
    have f1 := flat_len (f := cellInts) (n := 4) C.cells fun _ _ => Nat.le_refl _
    have f2 := flat_len (f := beaconInts) (n := 3) C.beacons fun _ _ => Nat.le_refl _
    have f3 := flat_len (f := lineInts) (n := 130) C.lines fun l hl => line_len (hpl l hl)
    unfold ints
    simp only [List.length_append, List.length_cons, List.length_nil]
    omega
  refine callF_ret (ref_sum_ret (ints_i64 hG hok) hlen w3 hv) ?_
  intro r w4 hr
  obtain ⟨rfl, x4⟩ : r = u64v (Dig.sum (ints C)) ∧ Ext w3 w4 := hr
  exact hR _ _ ⟨by unfold digestV; rw [if_pos hG], ((x1.trans x2).trans x3).trans x4⟩
end Go.Proofs.YtnbcdaonkdffkaaGreatDoor

/- Plain laws of editions; the chapter's example. -/
import Derived.Test.YtnbcdaonkdffkaaGreatDoorEEdnB
set_option linter.unusedVariables false
set_option linter.unusedSimpArgs false
namespace Go.Proofs.YtnbcdaonkdffkaaGreatDoor
set_option maxRecDepth 100000
set_option maxHeartbeats 16000000
open Sh Go.RowKit
namespace Edi
open Cha
structure MkOk (C : Cht) (l : List Int) (s o : Int) : Prop where
  good : GoodC C
  s : Sig.inQ 1 s = true
  o : Sig.inQ 1 o = true
  void : VoidsP C l
  ver : C.ver < 1000000
theorem makeV_ok {C : Cht} {l : List Int} {s o : Int} (h : MkOk C l s o) : makeV C l s o = (issOf C l s o, nextC C l, 0) := by
  unfold makeV
  rw [if_pos (by rw [valid_iff.2 h.good, h.s, h.o]; rfl), if_pos (voids_iff.2 h.void), if_neg (by have := h.ver; omega)]
theorem makeV_cases (C : Cht) (l : List Int) (s o : Int) : MkOk C l s o ∨ ∃ e, e ≠ 0 ∧ makeV C l s o = (noI, noC, e) := by
  by_cases h1 : (Cha.valid C && (Sig.inQ 1 s && Sig.inQ 1 o)) = true
  · by_cases h2 : voids C l = true
    · by_cases h3 : 1000000 ≤ C.ver
      · exact .inr ⟨2, by decide, by unfold makeV; rw [if_pos h1, if_pos h2, if_pos h3]⟩
      · rw [Bool.and_eq_true, Bool.and_eq_true] at h1
        exact .inl ⟨valid_iff.1 h1.1, h1.2.1, h1.2.2, voids_iff.1 h2, by omega⟩
    · exact .inr ⟨7, by decide, by unfold makeV; rw [if_pos h1, if_neg h2]⟩
  · exact .inr ⟨1, by decide, by unfold makeV; rw [if_neg h1]⟩
theorem pub_ok {s : Int} (h : Sig.inQ 1 s = true) : Sig.pubV s = (((Sig.pw 4 s.toNat : Nat) : Int), 0) := by
  unfold Sig.pubV
  rw [if_pos h]
theorem pub_mem {s : Int} (h : Sig.inQ 1 s = true) : Sig.member (Sig.pubV s).1 = true := by
  rw [pub_ok h]
  exact Sig.member_pw Sig.four_Q _
theorem iss_right {C : Cht} {l : List Int} {s o : Int} (hs : Sig.inQ 1 s = true) (ho : Sig.inQ 1 o = true) : (Sig.verV (Sig.pubV s).1 (issOf C l s o).sig (issInts (issOf C l s o))).1 = true := by
  rw [pub_ok hs]
  have e : (issOf C l s o).sig = Sig.sigOf s.toNat o.toNat (issInts (bareOf C l)) := by
    show (Sig.signV s o (issInts (bareOf C l))).1 = _
    unfold Sig.signV
    rw [if_pos ⟨hs, ho⟩]
  rw [e]
  show (Sig.verV _ _ (issInts (bareOf C l))).1 = true
  rw [Sig.sign_right]
theorem made_all {C : Cht} {l : List Int} {s o : Int} (h : MkOk C l s o) : ∀ j, j < 6 → applyB C (issOf C l s o) (Sig.pubV s).1 j = true := by
  intro j hj
  match j, hj with
  | 0, _ => show (Cha.valid C && Sig.member _) = true; rw [valid_iff.2 h.good, pub_mem h.s]; rfl
  | 1, _ =>
    show (decide (C.ver + 1 = C.ver + 1) && decide (C.ver + 1 ≤ 1000000)) = true
    have := h.ver
    rw [decide_eq_true rfl, decide_eq_true (by omega)]; rfl
  | 2, _ => exact decide_eq_true rfl
  | 3, _ => exact voids_iff.2 h.void
  | 4, _ => exact decide_eq_true rfl
  | 5, _ => exact iss_right h.s h.o
theorem apply_made {C : Cht} {l : List Int} {s o : Int} (h : MkOk C l s o) : applyV C (issOf C l s o) (Sig.pubV s).1 = (nextC C l, 0) := applyV_ok (made_all h)
theorem check_of {C : Cht} {I : Iss} {p : Int} (h : applyV C I p = (nextC C I.void, 0)) : checkV C I p = (true, 0) := by
  unfold checkV
  rw [h]
  rfl
theorem apply_cases (C : Cht) (I : Iss) (p : Int) : ((∀ j, j < 6 → applyB C I p j = true) ∧ applyV C I p = (nextC C I.void, 0) ∧ checkV C I p = (true, 0)) ∨ ∃ k, k < 6 ∧ (∀ j, j < k → applyB C I p j = true) ∧ applyB C I p k = false ∧ applyV C I p = (noC, applyE k) ∧ checkV C I p = (false, if k = 0 then 1 else 0) := by
  by_cases h : ∀ j, j < 6 → applyB C I p j = true
  · exact .inl ⟨h, applyV_ok h, check_of (applyV_ok h)⟩
  · have hex : ∃ k, k < 6 ∧ applyB C I p k = false := by
      refine Classical.byContradiction fun hn => h fun j hj => ?_
      cases hq : applyB C I p j with
      | true => rfl
      | false => exact absurd ⟨j, hj, hq⟩ hn
    have hmin : ∃ k, k < 6 ∧ (∀ j, j < k → applyB C I p j = true) ∧ applyB C I p k = false := by
      obtain ⟨k, hk, hf⟩ := hex
      induction k using Nat.strongRecOn with
      | ind k ih =>
        by_cases hall : ∀ j, j < k → applyB C I p j = true
        · exact ⟨k, hk, hall, hf⟩
        · have : ∃ j, j < k ∧ applyB C I p j = false := by
            refine Classical.byContradiction fun hn => hall fun j hj => ?_
            cases hq : applyB C I p j with
            | true => rfl
            | false => exact absurd ⟨j, hj, hq⟩ hn
          obtain ⟨j, hj, hq⟩ := this
          exact ih j hj (by omega) hq
    obtain ⟨k, hk, hall, hf⟩ := hmin
    have e := applyV_bad hk hall hf
    refine .inr ⟨k, hk, hall, hf, e, ?_⟩
    unfold checkV
    rw [e]
    match k, hk with
    | 0, _ => rfl
    | 1, _ => rfl
    | 2, _ => rfl
    | 3, _ => rfl
    | 4, _ => rfl
    | 5, _ => rfl
def exE : Cht := ⟨3, 0, 0, 2, 1, 10, [⟨⟨100, 200⟩, 0, false⟩, ⟨⟨150, 150⟩, 7, false⟩], [], []⟩
def exF : Cht := ⟨4, 0, 0, 2, 1, 10, [⟨⟨100, 200⟩, 0, false⟩, ⟨⟨150, 150⟩, 7, true⟩], [], []⟩
theorem exE_good : GoodC exE := ⟨by unfold FrameP; decide, by decide, by decide, by decide, by decide, by decide⟩
theorem exE_ok : ChartOk exE := ⟨by simp [exE, I64], fun c hc => by
    simp only [exE, List.mem_cons, List.not_mem_nil, or_false] at hc
    rcases hc with rfl | rfl <;> simp [SCell.Ok, SSpan.Ok, I64], fun _ h => (by cases h), fun _ h => (by cases h)⟩
theorem exE_next : nextC exE [1] = exF := rfl
theorem exE_void : VoidsP exE [1] := by
  intro k hk h
  have hk : k < 1 := hk
  have : k = 0 := by omega
  subst this
  exact ⟨show (-1 : Int) < 1 by decide, show (1 : Int) < 2 by decide, show voidAt exE 1 = false by decide⟩
theorem exE_mk : MkOk exE [1] 5 7 := ⟨exE_good, by decide, by decide, exE_void, by decide⟩
theorem exF_good : GoodC exF := exE_next ▸ next_good (l := [1]) exE_good (by decide)
theorem exF_ok : ChartOk exF := exE_next ▸ next_ok (l := [1]) exE_ok (by decide)
theorem pub5 : (Sig.pubV 5).1 = 1024 := by decide
theorem ex_a1 : applyV exE (issOf exE [1] 5 7) 1024 = (exF, 0) := by
  have h := apply_made exE_mk
  rw [pub5, exE_next] at h
  exact h
theorem ex_c1 : checkV exE (issOf exE [1] 5 7) 1024 = (true, 0) := check_of ex_a1
theorem ex_a2 : applyV exF (issOf exE [1] 5 7) 1024 = (noC, 40) := by
  have h0 : applyB exF (issOf exE [1] 5 7) 1024 0 = true := by
    show (Cha.valid exF && Sig.member 1024) = true
    rw [valid_iff.2 exF_good, ← pub5, pub_mem (by decide)]; rfl
  exact applyV_bad (k := 1) (by decide) (fun j hj => by match j, hj with | 0, _ => exact h0) (by show (decide ((4 : Int) = 4 + 1) && decide ((4 : Int) ≤ 1000000)) = false; decide)
theorem ex_m2 : makeV exF [1] 5 8 = (noI, noC, 7) := by
  unfold makeV
  rw [if_pos (by rw [valid_iff.2 exF_good]; decide), if_neg]
  rw [voids_iff]
  intro hV
  have h0 : (0 : Nat) < ([1] : List Int).length := by decide
  have := (hV 0 h0 h0).2.2
  exact absurd this (show ¬ voidAt exF 1 = false by decide)
theorem ex_m3 : makeV noC [] 5 8 = (noI, noC, 1) := by
  unfold makeV
  rw [if_neg]
  rw [Bool.and_eq_true, valid_iff]
  exact fun h => no_good h.1
theorem dgE : digestV exE = (15090139081025316331#64, 0) := by
  unfold digestV
  rw [if_pos exE_good]
  show (Dig.next Dig.begin64 _, _) = _
  rw [Dig.fnext_eq (by decide +kernel)]
  exact congrArg (fun d => (d, (0 : Int))) (by decide +kernel)
theorem dgF : digestV exF = (14288893345299179647#64, 0) := by
  unfold digestV
  rw [if_pos exF_good]
  show (Dig.next Dig.begin64 _, _) = _
  rw [Dig.fnext_eq (by decide +kernel)]
  exact congrArg (fun d => (d, (0 : Int))) (by decide +kernel)
theorem chalA : Sig.chal [16384, 1024, 4, 3513446795, 264300011, 3326892234, 2952800383, 1] = 790090271 := by
  show (Dig.next Dig.begin64 _).toNat % Sig.Q = _
  rw [Dig.fnext_eq (by decide +kernel)]; decide +kernel
theorem chalB : Sig.chal [304447744, 4096, 4, 3513446795, 264300011, 3326892234, 2952800383, 1] = 250350408 := by
  show (Dig.next Dig.begin64 _).toNat % Sig.Q = _
  rw [Dig.fnext_eq (by decide +kernel)]; decide +kernel
theorem bareI : issInts (bareOf exE [1]) = [4, 3513446795, 264300011, 3326892234, 2952800383, 1] := by
  unfold bareOf
  rw [exE_next, dgE, dgF]
  decide +kernel
attribute [local irreducible] Sig.chal in
theorem sigA : (issOf exE [1] 5 7).sig = ⟨790090271, 729225995⟩ := by
  show (Sig.signV 5 7 (issInts (bareOf exE [1]))).1 = _
  rw [bareI]
  unfold Sig.signV
  rw [if_pos ⟨by decide, by decide⟩]
  show Sig.sigOf 5 7 _ = _
  have h1 : ((Sig.pw 4 7 : Nat) : Int) = 16384 := by decide
  have h2 : ((Sig.pw 4 5 : Nat) : Int) = 1024 := by decide
  unfold Sig.sigOf
  rw [h1, h2, chalA]
  rfl
theorem backE (p e s : Nat) : Sig.back p ⟨(e : Int), (s : Int)⟩ = Sig.pw 4 s * Sig.pw p ((Sig.Q - e) % Sig.Q) % Sig.P := rfl
theorem backA : Sig.back 4096 ⟨((790090271 : Nat) : Int), ((729225995 : Nat) : Int)⟩ = 304447744 := by
  rw [backE, Sig.pw_fp (by decide), Sig.pw_fp (by decide)]; decide +kernel
theorem mem4096 : Sig.member 4096 = true := by
  unfold Sig.member
  rw [show Sig.pw (4096 : Int).toNat Sig.Q = 1 from by rw [Sig.pw_fp (by decide)]; decide +kernel]
  decide
attribute [local irreducible] Sig.chal Sig.pw Sig.back in
theorem ver4096 : Sig.verV 4096 (issOf exE [1] 5 7).sig (issInts (issOf exE [1] 5 7)) = (false, 0) := by
  show Sig.verV 4096 (issOf exE [1] 5 7).sig (issInts (bareOf exE [1])) = (false, 0)
  rw [sigA, bareI]
  have hback : Sig.back 4096 ⟨790090271, 729225995⟩ = 304447744 := backA
  unfold Sig.verV
  rw [if_pos ⟨mem4096, by decide, by decide⟩]
  show (decide (((Sig.chal (((Sig.back 4096 ⟨790090271, 729225995⟩ : Nat) : Int) :: 4096 :: [4, 3513446795, 264300011, 3326892234, 2952800383, 1]) : Nat) : Int) = 790090271), (0 : Int)) = _
  rw [hback]
  show (decide (((Sig.chal [304447744, 4096, 4, 3513446795, 264300011, 3326892234, 2952800383, 1] : Nat) : Int) = 790090271), (0 : Int)) = _
  rw [chalB]; rfl
theorem applyB_0 (C : Cht) (I : Iss) (p : Int) : applyB C I p 0 = (Cha.valid C && Sig.member p) := by unfold applyB; rw [if_pos rfl]
theorem applyB_1 (C : Cht) (I : Iss) (p : Int) : applyB C I p 1 = (decide (I.ver = C.ver + 1) && decide (I.ver ≤ 1000000)) := by unfold applyB; rw [if_neg (by decide), if_pos rfl]
theorem applyB_2 (C : Cht) (I : Iss) (p : Int) : applyB C I p 2 = decide (I.before = (Cha.digestV C).1) := by unfold applyB; rw [if_neg (by decide), if_neg (by decide), if_pos rfl]
theorem applyB_3 (C : Cht) (I : Iss) (p : Int) : applyB C I p 3 = voids C I.void := by unfold applyB; rw [if_neg (by decide), if_neg (by decide), if_neg (by decide), if_pos rfl]
theorem applyB_4 (C : Cht) (I : Iss) (p : Int) : applyB C I p 4 = decide (I.after = (Cha.digestV (nextC C I.void)).1) := by unfold applyB; rw [if_neg (by decide), if_neg (by decide), if_neg (by decide), if_neg (by decide), if_pos rfl]
theorem applyB_5 (C : Cht) (I : Iss) (p : Int) : applyB C I p 5 = (Sig.verV p I.sig (issInts I)).1 := by unfold applyB; rw [if_neg (by decide), if_neg (by decide), if_neg (by decide), if_neg (by decide), if_neg (by decide)]
theorem ex_a3 : applyV exE (issOf exE [1] 5 7) 4096 = (noC, 31) := by
  have hall := made_all exE_mk
  refine applyV_bad (k := 5) (by decide) (fun j hj => ?_) ?_
  · match j, hj with
    | 0, _ => rw [applyB_0, valid_iff.2 exE_good, mem4096, Bool.true_and]
    | 1, _ => rw [applyB_1, ← applyB_1 _ _ (Sig.pubV 5).1]; exact hall 1 (by decide)
    | 2, _ => rw [applyB_2, ← applyB_2 _ _ (Sig.pubV 5).1]; exact hall 2 (by decide)
    | 3, _ => rw [applyB_3, ← applyB_3 _ _ (Sig.pubV 5).1]; exact hall 3 (by decide)
    | 4, _ => rw [applyB_4, ← applyB_4 _ _ (Sig.pubV 5).1]; exact hall 4 (by decide)
  · rw [applyB_5, ver4096]
theorem ex_c3 : checkV exE (issOf exE [1] 5 7) 4096 = (false, 0) := by
  unfold checkV
  rw [ex_a3]; rfl
theorem iss_made_ok {C : Cht} {l : List Int} {s o : Int} (h : MkOk C l s o) (hl : ∀ n ∈ l, I64 n) : IssueOk (issOf C l s o) :=
  ⟨by obtain ⟨v1, v2⟩ := good_ver h.good; show I64 (C.ver + 1); constructor <;> omega, hl, signV_sig _ _ _⟩
end Edi
open Cha
theorem new_span15 (a b : Int) : Tryz.prog.built 76 [(0, .int .i64 a), (1, .int .i64 b)] = some (SSpan.mk a b).cells.toArray := by kernel_rfl
theorem new_cell15a (p : SSpan) : Tryz.prog.built 78 [(0, .agg p.cells.toArray)] = some (SCell.mk p 0 false).cells.toArray := by kernel_rfl
theorem new_cell15b (p : SSpan) (n : Int) : Tryz.prog.built 78 [(0, .agg p.cells.toArray), (1, .int .i64 n)] = some (SCell.mk p n false).cells.toArray := by kernel_rfl
theorem new_chart29 (a b c d : Int) (x : Hdr) : Tryz.prog.built 26 [(0, .int .i64 a), (3, .int .i64 b), (4, .int .i64 c), (5, .int .i64 d), (6, x.val)] = some (SChart.mk a 0 0 b c d x ⟨none, 0, 0⟩ ⟨none, 0, 0⟩).cells.toArray := by kernel_rfl
def noH : Hdr := ⟨none, 0, 0⟩
theorem ex29_is {W : World} {dc : Hdr} {C : Cht} (h : SCell.Row W dc.val C.cells) (hb : C.beacons = []) (hl : C.lines = []) : ChartIs W ⟨C.ver, C.x, C.y, C.w, C.h, C.size, dc, noH, noH⟩ C :=
  ⟨rfl, rfl, rfl, rfl, rfl, rfl, h, by rw [hb]; exact SBeacon.row_nil W, by rw [hl]; exact ⟨[], SLine.row_nil W, rfl, fun i s l h => by simp at h⟩⟩
theorem ex29_pts {w0 W : World} {dc : Hdr} {C : Cht} (hl : C.lines = []) : PtsIn w0 W ⟨C.ver, C.x, C.y, C.w, C.h, C.size, dc, noH, noH⟩ C := by
  unfold PtsIn
  rw [hl]
  exact ⟨[], SLine.row_nil W, rfl, fun i s l h => by simp at h⟩
theorem example29_ret (w : World) : Ret Tryz.prog 71 #[] w fun r w' => (∃ (g cap : Nat), r = .agg (SChart.mk 3 0 0 2 1 10 ⟨some ⟨g, 0, none⟩, 2, cap⟩ noH noH).cells.toArray ∧ SCell.Owns w.heap.size w' (.slice (some ⟨g, 0, none⟩) 2 cap) Edi.exE.cells) ∧ Ext w w' := by
  refine ret_of (fun _ _ => sh_landfalllaw29_example_ok) fun R hR => ?_
  unfold sh_landfalllaw29_example
  refine alloc_i Ty.SChart_zero fun b0 w1 x1 hat0 hb0 _ => ?_
  rw [build_i (new_span15 _ _), build_i (new_cell15a _), build_i (new_span15 _ _), build_i (new_cell15b _ _)]
  refine SCell.row_lit Edi.exE.cells rfl (by decide) (by decide) rfl fun vc w2 x2 hoc _ => ?_
  have z1 := x1.size
  have hoc' := Own.mono (base' := w.heap.size) hoc z1
  obtain ⟨gc, capc, hdc, hgc1, hgc2⟩ := own_open hoc (by decide)
  subst hdc
  have e : (Value.slice (some ⟨gc, 0, none⟩) 2 capc) = (Hdr.mk (some ⟨gc, 0, none⟩) 2 capc).val := rfl
  show DoV _ (Instr.build _ #[(0, _), (3, _), (4, _), (5, _), (6, .slice (some ⟨gc, 0, none⟩) 2 capc)]) _ _ _
  rw [e, build_i (new_chart29 _ _ _ _ _)]
  refine SChart.set (r := SChart.zero) (hat0.ext x2) fun w3 m3 hat3 s3 => ?_
  have l0 := hat0.lt
  refine res_i (rv_cell (chart_var hat3) (rv_nil _)) (hR _ _ ⟨⟨gc, capc, rfl, Own.mod hoc' m3 (Own.off_at hoc' (hat0.ext x2) (by decide))⟩, ext_step15 (x1.trans x2) m3 (by omega)⟩)
end Go.Proofs.YtnbcdaonkdffkaaGreatDoor
namespace Go.Proofs.YtnbcdaonkdffkaaGreatDoor
set_option maxRecDepth 100000
set_option maxHeartbeats 16000000
open Sh Go.RowKit Edi Cha
theorem pair_new {t : SIssue} {u : SChart} {w : World} {K : Value → Value → World → Prop} {X1 X2 X3 X4 : List PanicEntry → World → Prop} (hk : ∀ a b W, Ext w W → At W a (.cells t.cells.toArray 55 (0, 0)) → At W b (.cells u.cells.toArray 26 (0, 0)) → w.heap.size ≤ a → w.heap.size ≤ b → a ≠ b → K (.pointer (some ⟨a, 0, none⟩)) (.pointer (some ⟨b, 0, none⟩)) W) :
    DoV Tryz.prog (Instr.alloc 55 true (.tuple #[])) w (fun a w1 => DoV Tryz.prog (Instr.alloc 26 true (.tuple #[])) w1 (fun b w2 => DoU Tryz.prog (Instr.storeAt 55 a (.agg t.cells.toArray)) w2 (fun _ w3 => DoU Tryz.prog (Instr.storeAt 26 b (.agg u.cells.toArray)) w3 (fun _ w4 => K a b w4) X4) X3) X2) X1 := by
  refine alloc_i Ty.SIssue_zero fun a w1 x1 hat1 ha _ => ?_
  refine alloc_i Ty.SChart_zero fun b w2 x2 hat2 hb _ => ?_
  have l1 := hat1.lt
  have z1 := x1.size
  refine SIssue.set (s := t) (r := SIssue.zero) (hat1.ext x2) fun w3 m3 h3 _ => ?_
  refine SChart.set (s := u) (r := SChart.zero) (hat2.mod m3 (by omega)) fun w4 m4 h4 _ => ?_
  exact hk _ _ _ (ext_step15 (ext_step15 (x1.trans x2) m3 (by omega)) m4 (by omega)) (h3.mod m4 (by omega)) h4 (by omega) (by omega) (by omega)
theorem head29_ret (w : World) (hT : Tab w) : Ret Tryz.prog 29 #[] w (TrueQ w) := by
  refine ret_of (fun _ _ => sh_landfalllaw29_head_ok) fun R hR => ?_
  unfold sh_landfalllaw29_head
  refine callF_ret (example29_ret w) ?_
  rintro _ w1 ⟨⟨gc, cap, rfl, hoc⟩, x1⟩
  let cs : SChart := SChart.mk 3 0 0 2 1 10 ⟨some ⟨gc, 0, none⟩, 2, cap⟩ noH noH
  have hc : ∀ V, Ext w1 V → ChartIs V cs exE := fun V x => ex29_is (C := exE) (dc := ⟨some ⟨gc, 0, none⟩, 2, cap⟩) (Sl.of_owns (Own.ext hoc x)) rfl rfl
  have hP : ∀ V, PtsIn w V cs exE := fun V => ex29_pts (C := exE) (dc := ⟨some ⟨gc, 0, none⟩, 2, cap⟩) rfl
  refine chart_new fun b1 w2 x2 hat2 hb1 => ?_
  have hat2 : At w2 b1 (.cells cs.cells.toArray 26 (0, 0)) := hat2
  have x02 := x1.trans x2
  have hg : ∀ V, Ext w2 V → Has V b1 0 cs.cells := fun V x => has_of_at (hat2.ext x)
  have z1 := x1.size
  have z2 := x2.size
  have l1 := hat2.lt
  have hgc : w.heap.size ≤ gc ∧ gc < w1.heap.size := Own.block hoc rfl
  rw [SChart.g_all (hg w2 (Ext.refl _))]
  refine lit_ints [1] rfl (by decide) (by decide) rfl fun v1 w3 x3 ho3 _ => ?_
  have x03 := x02.trans x3
  have x23 := x2.trans x3
  have z3 := x3.size
  have hi1 : ∀ n ∈ ([1] : List Int), I64 n := fun n hn => by
    rw [List.mem_singleton] at hn
    subst hn
    constructor <;> decide
  refine callF_ret (ediMake_ret (s := 5) (o := 7) w w3 x03 (hc w3 x23) (hP w3) exE_ok (l := [1]) (Sl.of_owns ho3) hi1 (by decide) (hT.ext x03)) ?_
  rintro _ w4 ⟨⟨t, u, rfl, ht, hu⟩, x4⟩
  rw [makeV_ok exE_mk] at ht hu ⊢
  have ht : IssueIs w4 t (issOf exE [1] 5 7) := ht
  have hu : DLive w w3.heap.size w4 u exF := hu
  rw [ext3_0, ext3_1, ext3_2]
  refine pair_new fun b2 b3 w5 x5 hat5 hat5' hb2 hb3 hne => ?_
  have x24 := x3.trans x4
  have x25 := x24.trans x5
  have hIok := iss_made_ok exE_mk hi1
  have htI : ∀ V, Ext w5 V → IssueIs V t (issOf exE [1] 5 7) := fun V x => ht.ext (x5.trans x)
  have g2 : ∀ V, Ext w5 V → Has V b2 0 t.cells := fun V x => has_of_at (hat5.ext x)
  have g3 : ∀ V, Ext w5 V → Has V b3 0 u.cells := fun V x => has_of_at (hat5'.ext x)
  have hcV : ∀ V, Ext w5 V → ChartIs V cs exE := fun V x => hc V (x2.trans (x25.trans x))
  have hTV : ∀ V, Ext w5 V → Tab V := fun V x => hT.ext ((x02.trans x25).trans x)
  rw [SChart.g_all (hg w5 x25), SIssue.g_all (g2 w5 (Ext.refl _))]
  refine callF_ret (ediCheck_ret (p := 1024) w5 (hcV _ (Ext.refl _)) exE_ok (htI _ (Ext.refl _)) hIok (by decide) (hTV _ (Ext.refl _))) ?_
  rintro _ w6 ⟨rfl, x6⟩
  rw [ex_c1, ext2_0, ext2_1, SChart.g_all (hg w6 (x25.trans x6)), SIssue.g_all (g2 w6 x6)]
  refine callF_ret (ediCheck_ret (p := 4096) w6 (hcV _ x6) exE_ok (htI _ x6) hIok (by decide) (hTV _ x6)) ?_
  rintro _ w7 ⟨rfl, x7⟩
  have x57 := x6.trans x7
  rw [ex_c3, ext2_0, ext2_1, SChart.g_all (hg w7 (x25.trans x57)), SIssue.g_all (g2 w7 x57)]
  refine callF_ret (ediApply_ret (p := 1024) w w7 ((x02.trans x25).trans x57) (hcV _ x57) (hP w7) exE_ok (htI _ x57) hIok (by decide) hT) ?_
  rintro _ w8 ⟨⟨x, rfl, hx⟩, x8⟩
  rw [ex_a1] at hx ⊢
  have hx : DLive w w7.heap.size w8 x exF := hx
  rw [ext2_0, ext2_1]
  refine chart_new fun b9 w9 x9 hat9 hb9 => ?_
  have x59 := (x57.trans x8).trans x9
  have huV : ∀ V, Ext w5 V → ChartIs V u exF := fun V xx => (hu.mod (Mod.of_ext (x5.trans xx))).is
  rw [SChart.g_all (g3 w9 x59), SIssue.g_all (g2 w9 x59)]
  refine callF_ret (ediApply_ret (p := 1024) w9 w9 (Ext.refl _) (huV _ x59) (huV _ x59).pts exF_ok (htI _ x59) hIok (by decide) (hTV _ x59)) ?_
  rintro _ w10 ⟨⟨y1, rfl, hy1⟩, x10⟩
  rw [ex_a2, ext2_0, ext2_1]
  refine chart_new fun b11 w11 x11 hat11 hb11 => ?_
  have x511 := (x59.trans x10).trans x11
  rw [SChart.g_all (hg w11 (x25.trans x511)), SIssue.g_all (g2 w11 x511)]
  refine callF_ret (ediApply_ret (p := 4096) w11 w11 (Ext.refl _) (hcV _ x511) (hcV _ x511).pts exE_ok (htI _ x511) hIok (by decide) (hTV _ x511)) ?_
  rintro _ w12 ⟨⟨y2, rfl, hy2⟩, x12⟩
  rw [ex_a3, ext2_0, ext2_1]
  refine chart_new fun b13 w13 x13 hat13 hb13 => ?_
  have x513 := (x511.trans x12).trans x13
  rw [SChart.g_all (g3 w13 x513)]
  refine lit_ints [1] rfl (by decide) (by decide) rfl fun v2 w14 x14 ho14 _ => ?_
  have x514 := x513.trans x14
  refine callF_ret (ediMake_ret (s := 5) (o := 8) w14 w14 (Ext.refl _) (huV _ x514) (huV _ x514).pts exF_ok (l := [1]) (Sl.of_owns ho14) hi1 (by decide) (hTV _ x514)) ?_
  rintro _ w15 ⟨⟨t2, u2, rfl, ht2, hu2⟩, x15⟩
  rw [ex_m2, ext3_0, ext3_1, ext3_2]
  refine pair_new fun b15 b16 w16 x16 _ _ _ _ _ => ?_
  have x516 := (x514.trans x15).trans x16
  rw [build_i new_nochart15]
  refine callF_ret (ediMake_ret (s := 5) (o := 8) w16 w16 (Ext.refl _) (nochart_is _) (nochart_is _).pts no_ok (l := []) (Sl.nil _ _) (fun _ h => (by cases h)) (by decide) (hTV _ x516)) ?_
  rintro _ w17 ⟨⟨t3, u3, rfl, ht3, hu3⟩, x17⟩
  rw [ex_m3, ext3_0, ext3_1, ext3_2]
  refine pair_new fun b18 b19 w18 x18 _ _ _ _ _ => ?_
  have x518 := (x516.trans x17).trans x18
  refine join1 (fun q V => q = .bool true ∧ V = w18) ?_ fun K64 hK64 => ?_
  · rintro hh _ V hq ⟨rfl, rfl⟩
    have hb1V := hat2.ext (x25.trans x518)
    rw [hq, SChart.g_cs (has_of_at hb1V)]
    refine SChart.s_ver (x := 4) hb1V fun W1 m1 h1 s1 => ?_
    have hocV := Own.ext hoc (x2.trans (x25.trans x518))
    have hoc1 := Own.mod hocV m1 (Own.off_at hocV hb1V (by decide))
    obtain ⟨ic, hic, hzc, hsc, hbc⟩ := Ty.info_parts Ty.SCell_info
    have hbgc : b1 ≠ gc := by omega
    show DoV _ (Instr.indexAt _ (.slice (some ⟨gc, 0, none⟩) exE.cells.length cap) (.int .i64 ((1 : Nat) : Int))) _ _ _
    rw [own_idx Ty.SCell_row15 hic hsc (by decide), Nat.zero_add, Ty.SCell_f2]
    refine own_cell (j := 3) (a' := ⟨⟨150, 150⟩, 7, true⟩) SCell.len (l := exE.cells) (k := 1) hoc1 (by decide) (by decide) rfl Ty.bool_size rfl fun W2 m2 hoc2 => ?_
    have h2 := h1.mod m2 hbgc
    let cs2 : SChart := SChart.mk 4 0 0 2 1 10 ⟨some ⟨gc, 0, none⟩, 2, cap⟩ noH noH
    have h2 : At W2 b1 (.cells cs2.cells.toArray 26 (0, 0)) := h2
    have hc2 : ∀ V, Ext W2 V → ChartIs V cs2 exF := fun V x => ex29_is (C := exF) (dc := ⟨some ⟨gc, 0, none⟩, 2, cap⟩) (Sl.of_owns (Own.ext hoc2 x)) rfl rfl
    have l2 := hat5.lt
    have l3 := hat5'.lt
    have l9 := hat9.lt
    have z4 := x4.size
    have z5 := x25.size
    have z9 := x59.size
    have z57 := x57.size
    have z8 := x8.size
    have mm : ∀ {N : Nat} {S : Nat → Prop}, (∀ k, k = b1 ∨ k = gc → S k) → Mod S V W2 := fun hS => (m1.mono fun k _ h => hS k (.inl h)).trans (m2.mono fun k _ h => hS k (.inr h))
    have g2' : Has W2 b2 0 t.cells := has_of_at (((hat5.ext x518).mod m1 (by omega)).mod m2 (by omega))
    have g3' : ∀ V', Ext W2 V' → Has V' b3 0 u.cells := fun V' x => has_of_at ((((hat5'.ext x518).mod m1 (by omega)).mod m2 (by omega)).ext x)
    have y9 : Ext w9 V := ((((((x10.trans x11).trans x12).trans x13).trans x14).trans x15).trans x16).trans (x17.trans x18)
    have g9' : ∀ V', Ext W2 V' → Has V' b9 0 x.cells := fun V' xx => has_of_at ((((hat9.ext y9).mod m1 (by omega)).mod m2 (by omega)).ext xx)
    have huF : ∀ V', Ext W2 V' → ChartIs V' u exF := fun V' xx => (hu.mod ((Mod.of_ext (x5.trans x518)).trans ((mm (N := 0) fun k h => by omega).trans (Mod.of_ext xx)))).is
    have hxF : ∀ V', Ext W2 V' → ChartIs V' x exF := fun V' xx => (hx.mod ((Mod.of_ext (x9.trans y9)).trans ((mm (N := 0) fun k h => by omega).trans (Mod.of_ext xx)))).is
    have x0W2 : Ext w W2 := ((Mod.of_ext ((x02.trans x25).trans x518) : Mod (w.heap.size ≤ ·) w V).trans (mm (N := 0) fun k h => by omega)).new
    have hS : SizeP exF := good_size exF_good
    refine Gd_i (fun _ => ?_) fun hb => by cases hb
    refine Gd_i (fun _ => ?_) fun hb => by cases hb
    rw [un_not]
    refine Gd_i (fun _ => ?_) fun hb => by cases hb
    rw [SIssue.g_ver g2', ((htI w5 (Ext.refl _)).ver : t.ver = 4), bin_eql]
    refine gd_d rfl ?_
    rw [SChart.g_all (g3' _ (Ext.refl _)), SChart.g_all (has_of_at h2)]
    refine callF_ret (refSame_ret W2 (huF _ (Ext.refl _)) (hc2 _ (Ext.refl _)) hS hS) ?_
    rintro _ W3 ⟨rfl, y3⟩
    refine gd_d rfl ?_
    rw [SChart.g_all (g9' _ y3), SChart.g_all (has_of_at (h2.ext y3))]
    refine callF_ret (refSame_ret W3 (hxF _ y3) (hc2 _ y3) hS hS) ?_
    rintro _ W4 ⟨rfl, y4⟩
    exact hR _ _ ⟨by rw [decide_eq_true rfl], (x0W2.trans y3).trans y4⟩
  · rw [bin_eql]
    refine gd_d rfl ?_
    rw [bin_eql]
    refine gd_d rfl ?_
    rw [bin_eql]
    refine gd_d rfl ?_
    rw [bin_eql]
    refine gd_d rfl ?_
    rw [bin_eql]
    refine gd_d rfl ?_
    rw [bin_eql]
    refine gd_d rfl ?_
    rw [bin_eql]
    refine gd_d rfl ?_
    rw [bin_eql]
    exact hK64 _ _ ⟨by rw [decide_eq_true rfl], rfl⟩
end Go.Proofs.YtnbcdaonkdffkaaGreatDoor

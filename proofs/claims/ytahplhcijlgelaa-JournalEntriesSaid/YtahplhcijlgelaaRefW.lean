/- The walks of the reference's Get, of both sums, of the comparisons. -/
import Derived.Test.YtahplhcijlgelaaGetD
namespace Go.Proofs.Ytahplhcijlgelaa
set_option maxRecDepth 100000
open Sh Go.RowKit
theorem app_int {base : Nat} {w : World} {K : Value → World → Prop} {X : List PanicEntry → World → Prop} {v : Value} {l : List Int} {n : Int} {cs : Array Bool} (hown : w.ownsRow base 3 1 v l.length (iv l)) (hl : l.length < 10000000000000) (hb : base ≤ w.heap.size)
    (hk : ∀ v' w1, w1.ownsRow base 3 1 v' (l ++ [n]).length (iv (l ++ [n])) → Mod (base ≤ ·) w w1 → K v' w1) :
    DoV Try.prog (Instr.buildSlice 45 1 #[(0, .int .i64 n)]) w (fun s w1 => CallB Try.prog .append #[45, 45] 45 cs #[v, s] w1 K X) X := by
  obtain ⟨i, hi, hz, hs, hby⟩ := Ty.info_parts Ty.int_info
  refine lit1_i Ty.ints hi hs hz rfl rfl fun g w1 he hat hg _ => ?_
  have hs1 := he.size
  refine app_own Ty.ints hi hz hs hby rfl (by omega) (Own.ext hown he) (Sl.of_lit hat) (by simp [Value.oneCell']) (by omega) (by omega) (by omega) fun v' w2 h1 hm _ => ?_
  exact hk v' w2 (by simpa [iv] using h1) ((Mod.of_ext (S := fun _ => False) he).comp hm (fun _ _ h => h.elim) fun k hk h => (Own.block hown h).1)
theorem refGet_ret {v : Value} {l : List UInt8} (w : World) (hv : Sl w 1 v l.length (bv l)) : Ret Try.prog 50 #[v] w (GetQ l w) := by
  refine ret_of (fun _ _ => sh_landfallref08_Get_ok _) fun R hR => ?_
  unfold sh_landfallref08_Get
  obtain ⟨i8, hi8, _, hs8, _⟩ := Ty.info_parts Ty.u8_info
  have hle := hv.le
  have hbad : ∀ w', Ext w w' → Cod.get l = none → R (.returned (.tuple #[.slice none 0 0, .int .i64 7])) w' := fun w' he hn => hR _ _ ⟨he, by rw [hn]; rfl⟩
  refine callF_same (read_ret w hv) ?_
  cases hn : Cod.next l with
  | none =>
    have hrv : readV l = .tuple #[.int .i64 0, .int .i64 0] := by unfold readV; rw [hn]; rfl
    rw [hrv, ext2_0, ext2_1]
    refine join0 (fun _ => False) (fun _ _ h => h.elim) fun K7 hK7 => ?_
    refine join1 (fun x w' => x = .bool true ∧ w' = w) ?_ fun K hK => ?_
    · rintro h11 _ w6 h24 ⟨rfl, rfl⟩
      rw [h24, Br_bool, if_pos rfl]
      exact hbad _ (Ext.refl _) (by unfold Cod.get; rw [hn]; rfl)
    · rw [bin_eql, decide_eq_true rfl, Gd_bool, if_neg (by decide)]
      exact hK _ _ ⟨rfl, rfl⟩
  | some p =>
    obtain ⟨n, k0⟩ := p
    obtain ⟨hnI, hk0, hk0l, _⟩ := Cod.next_inv hn
    have hrv : readV l = .tuple #[.int .i64 n, .int .i64 k0] := by unfold readV; rw [hn]; rfl
    have hget : Cod.get l = if n < 0 ∨ 4000 < n then none else (Cod.more n.toNat (l.drop k0)).bind fun q => if q.2 = [] then some q.1 else none := by unfold Cod.get; rw [hn]; rfl
    rw [hrv, ext2_0, ext2_1]
    refine join0 (fun w' => w' = w ∧ ¬ (n < 0 ∨ 4000 < n)) ?_ fun K7 hK7 => ?_
    · rintro _ w6 ⟨hw, hnn⟩
      subst w6
      rw [if_neg hnn] at hget
      refine loop3 (fun x y z w1 => ∃ (k at_ : Nat) (ns : List Int), x = .int .i64 at_ ∧ z = .int .i64 k ∧ k ≤ n.toNat ∧ at_ ≤ l.length ∧ ns.length = k ∧ w1.ownsRow w.heap.size 3 1 y ns.length (iv ns) ∧ Mod (w.heap.size ≤ ·) w w1 ∧
          Cod.more n.toNat (l.drop k0) = (Cod.more (n.toNat - k) (l.drop at_)).map (fun q => (ns ++ q.1, q.2))) (fun _ _ z _ => n.toNat - (intOf z).toNat)
        ⟨0, k0, [], rfl, rfl, by omega, hk0l, rfl, Own.nil _ _ _ _, Mod.refl _ _, by simp⟩ ?_
      rintro h _ vl _ w1 h5 h6 h7 ⟨k, at_, ns, rfl, rfl, hkN, hat, hns, hvl, hm, hmore⟩ K hK
      have hz := hm.size
      rw [h5, h6, h7, bin_lss]
      by_cases hlt : k < n.toNat
      · rw [decide_eq_true (by omega), Br_bool, if_pos rfl]
        refine slice_from Ty.bytes hi8 hs8 (by decide) (hv.ext hm.new) hat fun v' hv' _ => ?_
        have hv2 : Sl w1 1 v' (l.drop at_).length (bv (l.drop at_)) := by
          have e : (bv l).drop (at_ * 1) = bv (l.drop at_) := by simp [bv, List.map_drop]
          rw [e] at hv'
          simpa using hv'
        refine callF_same (read_ret w1 hv2) ?_
        have hm1 : Cod.more (n.toNat - k) (l.drop at_) = (Cod.next (l.drop at_)).bind fun p => (Cod.more (n.toNat - (k + 1)) ((l.drop at_).drop p.2)).map fun q => (p.1 :: q.1, q.2) := by
          rw [show n.toNat - k = (n.toNat - (k + 1)) + 1 by omega]; rfl
        rw [hm1] at hmore
        cases hnx : Cod.next (l.drop at_) with
        | none =>
          have hrv : readV (l.drop at_) = .tuple #[.int .i64 0, .int .i64 0] := by unfold readV; rw [hnx]; rfl
          rw [hnx] at hmore
          rw [hrv, ext2_0, ext2_1, bin_eql, decide_eq_true rfl, Br_bool, if_pos rfl]
          exact hbad _ hm.new (by rw [hget, hmore]; rfl)
        | some p =>
          obtain ⟨m, j⟩ := p
          obtain ⟨_, hj0, hjl, _⟩ := Cod.next_inv hnx
          rw [List.length_drop] at hjl
          have hrv : readV (l.drop at_) = .tuple #[.int .i64 m, .int .i64 j] := by unfold readV; rw [hnx]; rfl
          rw [hnx, Option.bind_some] at hmore
          simp only at hmore
          rw [hrv, ext2_0, ext2_1, bin_eql, decide_eq_false (by omega), Br_bool, if_neg (by decide)]
          refine app_int hvl (by omega) (by omega) fun vl' w2 hvl2 m2 => ?_
          rw [bin_add, bin_add, i64_wrap (by omega) (by omega), i64_wrap (by omega) (by omega)]
          refine hK _ _ _ _ ⟨k + 1, at_ + j, ns ++ [m], by simp, by simp, by omega, by omega, by simp [hns], hvl2, hm.trans m2, ?_⟩ (by simp [intOf]; omega)
          rw [hmore, Option.map_map, List.drop_drop]
          congr 1
          funext q
          simp
      · have hkn : k = n.toNat := by omega
        subst hkn
        rw [Nat.sub_self] at hmore
        simp only [Cod.more, Option.map_some, List.append_nil] at hmore
        rw [hmore, Option.bind_some] at hget
        simp only at hget
        rw [decide_eq_false (by omega), Br_bool, if_neg (by decide), (hv.ext hm.new).len Ty.bytes, bin_neq]
        by_cases hr : l.drop at_ = []
        · rw [if_pos hr] at hget
          have hle2 : l.length ≤ at_ := by simpa using hr
          rw [decide_eq_true (by omega), Br_bool, if_neg (by decide)]
          refine hR _ _ ⟨hm.new, ?_⟩
          rw [hget]
          exact ⟨vl, rfl, hvl⟩
        · rw [if_neg hr] at hget
          have hle2 : ¬ l.length ≤ at_ := by simpa using hr
          rw [decide_eq_false (by omega), Br_bool, if_pos (by decide)]
          exact hbad _ hm.new hget
    · refine join1 (fun x w' => x = .bool (decide (n < 0 ∨ 4000 < n)) ∧ w' = w) ?_ fun K hK => ?_
      · rintro h11 _ w6 h14 ⟨rfl, rfl⟩
        rw [h14, Br_bool]
        by_cases hz : n < 0 ∨ 4000 < n
        · rw [decide_eq_true hz, if_pos rfl]
          rw [if_pos hz] at hget
          exact hbad _ (Ext.refl _) hget
        · rw [decide_eq_false hz, if_neg (by decide)]
          exact hK7 _ ⟨rfl, hz⟩
      · rw [bin_eql, decide_eq_false (by omega), Gd_bool, if_pos rfl, bin_lss]
        by_cases hz : n < 0
        · rw [decide_eq_true (by omega), Gd_bool, if_neg (by decide)]
          exact hK _ _ ⟨by simp [hz], rfl⟩
        · rw [decide_eq_false (by omega), Gd_bool, if_pos rfl, bin_gtr]
          refine hK _ _ ⟨?_, rfl⟩
          congr 1; simp only [decide_eq_decide]; omega
end Go.Proofs.Ytahplhcijlgelaa

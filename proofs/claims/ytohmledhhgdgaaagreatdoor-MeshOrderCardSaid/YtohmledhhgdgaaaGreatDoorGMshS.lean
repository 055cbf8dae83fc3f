/- slices.SortFunc at reports, by their order. -/
import Derived.Test.YtohmledhhgdgaaaGreatDoorGMshF
import Derived.Test.YtohmledhhgdgaaaGreatDoorGMshD
import Derived.Test.YtohmledhhgdgaaaGreatDoorGSortL
set_option linter.unusedVariables false
set_option linter.unusedSimpArgs false
namespace Go.Proofs.YtohmledhhgdgaaaGreatDoor
set_option maxRecDepth 100000
set_option maxHeartbeats 8000000
open Sh Go.RowKit
namespace Srt
structure El (g : Nat) (w : World) where
  p : Msh.Pr
  ok : LiveS (· = g) w p.1 p.2 ∧ p.2.ents.length < 1000000
theorem zero_live (B : Nat → Prop) (w : World) : LiveS B w SReport.zero Rep.Rpt.zero := fun W _ => ⟨rfl, rfl, SEntry.row_nil W, rfl, rfl, rfl⟩
instance (g : Nat) (w : World) : Inhabited (El g w) := ⟨⟨(SReport.zero, Rep.Rpt.zero), zero_live _ _, by decide⟩⟩
def enc {g : Nat} {w : World} (x : El g w) : List Value := x.p.1.cells
def cf {g : Nat} {w : World} (x y : El g w) : Int := rcmp x.p.2 y.p.2
theorem lt_eq {g : Nat} {w : World} (x y : El g w) : Go.Proofs.ltOf cf x y = Msh.less x.p.2 y.p.2 := by
  unfold Go.Proofs.ltOf cf
  by_cases h : rcmp x.p.2 y.p.2 < 0
  · rw [decide_eq_true h, rcmp_lt.1 h]
  · rw [decide_eq_false h]
    cases hb : Msh.less x.p.2 y.p.2 with
    | false => rfl
    | true => exact absurd (rcmp_lt.2 hb) h
theorem swo (g : Nat) (w : World) : Go.Sort.SWO (Go.Proofs.ltOf (cf (g := g) (w := w))) where
  irrefl x := by rw [lt_eq]; exact Msh.less_irrefl _
  trans x y z h h' := by rw [lt_eq] at *; exact Msh.less_trans h h'
  ntrans x y z h h' := by
    rw [lt_eq] at *
    cases hb : Msh.less x.p.2 z.p.2 with
    | false => rfl
    | true =>
      by_cases e : x.p.2 = y.p.2
      · rw [← e, hb] at h'; cases h'
      · have := Msh.less_trans (Msh.less_total h e) hb
        rw [this] at h'; cases h'
theorem flat_fl {α : Type} [Inhabited α] {c : α → List Value} {k : Nat} (hc : ∀ a, (c a).length = k) (h0 : 0 < k) (d : Array α) : (Go.Sort.flatK c k d).toList = fl c d.toList := by
  apply List.ext_getElem?
  intro t
  unfold Go.Sort.flatK
  by_cases ht : t < d.size * k
  · have hd : t / k < d.toList.length := by rw [Array.length_toList, Nat.div_lt_iff_lt_mul h0]; exact ht
    have hm : t % k < (c d.toList[t / k]).length := by rw [hc]; exact Nat.mod_lt _ h0
    have hg := fl_get hc (l := d.toList) (k := t / k) (j := t % k) hd (List.getElem?_eq_getElem hm)
    rw [Nat.mul_comm, Nat.div_add_mod] at hg
    rw [hg, Array.toList_map, List.getElem?_map, Array.toList_range, List.getElem?_range ht, Option.map_some]
    have e1 : d[t / k]! = d.toList[t / k] := by
      rw [getElem!_pos d (t / k) (by simpa using hd)]; simp
    rw [e1, getElem!_pos (c d.toList[t / k]) (t % k) hm]
  · rw [List.getElem?_eq_none (by simp; omega), List.getElem?_eq_none (by rw [fl_length hc, Array.length_toList]; omega)]
end Srt
open Srt in
theorem msort_ret {g cap : Nat} {cur : Array Value} {P : List Msh.Pr} (w : World) (hat : At w g (.cells cur 30 (0, 0))) (hcap : P.length ≤ cap) (hcs : cur.size = cap * 7) (htk : cur.toList.take (P.length * 7) = fl SReport.cells (P.map Prod.fst))
    (hl : ∀ p ∈ P, LiveS (· = g) w p.1 p.2 ∧ p.2.ents.length < 1000000) (hn : P.length < 100000) :
    Ret Tryz.prog 43 #[.slice (some ⟨g, 0, none⟩) P.length cap, .func (.func 38) #[] #[]] w fun _ w' =>
      ∃ (P' : List Msh.Pr) (cur' : Array Value), P'.Perm P ∧ (∀ i j (hj : j < P'.length) (hij : i < j), Msh.less P'[j].2 (P'[i]'(by omega)).2 = false) ∧ At w' g (.cells cur' 30 (0, 0)) ∧ cur'.size = cap * 7 ∧ cur'.toList.take (P'.length * 7) = fl SReport.cells (P'.map Prod.fst) ∧ Mod (· = g) w w' := by
  let d : Array (El g w) := (P.attach.map fun p => (⟨p.1, hl p.1 p.2⟩ : El g w)).toArray
  have hdP : d.toList.map El.p = P := by
    show (P.attach.map _).map El.p = P
    rw [List.map_map]
    exact (List.attach_map_val (l := P) (f := id)).trans (List.map_id _)
  have hds : d.size = P.length := by show (P.attach.map _).length = _; rw [List.length_map, List.length_attach]
  have hek : ∀ x : El g w, (enc x).length = 7 := fun x => SReport.len _
  have he1 : ∀ x : El g w, ∀ v ∈ enc x, v.oneCell' = true := fun x => SReport.one _
  have flv : ∀ l : List (El g w), fl enc l = fl SReport.cells ((l.map El.p).map Prod.fst) := fun l => by
    unfold fl
    rw [List.map_map, List.flatMap_map]; rfl
  have hfl : (Go.Sort.flatK enc 7 d).toList = fl SReport.cells (P.map Prod.fst) := by rw [flat_fl hek (by decide), flv, hdP]
  have hmod : ∀ (m : Nat) (os : Array Obj) (dk : Array (El g w)), Mod (· = g) w (Go.Proofs.sortWorldK enc 7 w g 0 m dk os) := fun m os dk => by
    refine ⟨rfl, rfl, rfl, ?_, fun k hk hne => ?_⟩
    · simp [Go.Proofs.sortWorldK, Go.Sort.putRowK, Go.Sort.putRow, Go.Sort.mapBlock, Go.Sort.grow, Go.Sort.ahead]
    · simp only [Go.Proofs.sortWorldK, Go.Sort.putRowK, Go.Sort.putRow, Go.Sort.mapBlock, Go.Sort.grow, Go.Sort.ahead]
      rw [Array.getElem?_append_left (by simpa using hk), Array.getElem?_modify, if_neg (fun e => hne e.symm)]
  have hholds : Go.Sort.HoldsK enc 7 w g 0 d := fun j hj => by
    refine ⟨?_, hat.free _⟩
    have hj' : j < (Go.Sort.flatK enc 7 d).toList.length := by simpa using hj
    have e : (Go.Sort.flatK enc 7 d).toList[j]? = some (Go.Sort.flatK enc 7 d)[j]! := by rw [getElem!_pos _ j hj]; simp [hj]
    rw [hfl, ← htk, List.getElem?_take] at e
    split at e
    · rw [Nat.zero_add]
      exact cell_of hat e
    · cases e
  have hcmp : Go.Proofs.CmpLays Tryz.prog 38 #[] enc 7 cf g 0 d.size w := fun m os dk _ x y => by
    have hx := (x.ok.1) _ (hmod m os dk)
    have hy := (y.ok.1) _ (hmod m os dk)
    have := orderD x.ok.2 y.ok.2 _ hx hy
    rw [Array.append_empty]
    refine Calls.mono this fun e w' he => ?_
    cases e with
    | returned v => exact ⟨by rw [he.1]; rfl, he.2.grow⟩
    | panicked _ => exact he.elim
    | outgrown => exact he.elim
  have key := Go.Proofs.AnyQ.slices_SortFunc Tryz.laysSlF06 7 Ty.SReport_agg Ty.SReport_size enc hek he1 cf (swo g w) 38 #[] g 0 cap d w (run_goes (by kernel_rfl)) hcmp hholds hat.lt (by omega)
  rw [hds] at key
  refine Calls.mono key fun e w' he => ?_
  obtain ⟨rfl, d', n, os, hp, hs, rfl⟩ := he
  obtain ⟨hsz, _, hperm⟩ := hp
  have hs' : d'.size = P.length := by rw [hsz, hds]
  refine ⟨d'.toList.map El.p, Go.Sort.putCells id 0 (Go.Sort.flatK enc 7 d') cur, ?_, fun i j hj hij => ?_, ?_, ?_, ?_, hmod _ _ _⟩
  · rw [← hdP]
    refine List.Perm.map _ ?_
    have e1 : (d'.extract 0 P.length).toList = d'.toList := by rw [← hs']; simp
    have e2 : (d.extract 0 P.length).toList = d.toList := by rw [← hds]; simp
    rw [e1, e2] at hperm
    exact hperm
  · have hj' : j < d'.size := by simpa using hj
    have := hs i j (Nat.zero_le _) hij (by omega)
    rw [lt_eq, getElem!_pos d' j hj', getElem!_pos d' i (by omega)] at this
    simpa using this
  · unfold At at hat ⊢
    simp only [Go.Proofs.sortWorldK, Go.Sort.putRowK, Go.Sort.putRow, Go.Sort.mapBlock, Go.Sort.grow, Go.Sort.ahead]
    rw [Array.getElem?_append_left (by have := (Array.getElem?_eq_some_iff.1 hat).1; simpa using this), Array.getElem?_modify, if_pos rfl, hat]
    rfl
  · unfold Go.Sort.putCells; rw [Array.size_mapIdx, hcs]
  · have hfl' : (Go.Sort.flatK enc 7 d').toList = fl SReport.cells ((d'.toList.map El.p).map Prod.fst) := by rw [flat_fl hek (by decide), flv]
    have hFs : (Go.Sort.flatK enc 7 d').size = P.length * 7 := by rw [Go.Sort.size_flatK, hs']
    rw [← hfl', List.length_map, Array.length_toList, hs']
    apply List.ext_getElem?
    intro t
    rw [List.getElem?_take]
    split
    · rename_i ht
      have hc : t < cur.size := by rw [hcs]; have := Nat.mul_le_mul_right 7 hcap; omega
      unfold Go.Sort.putCells
      rw [Array.getElem?_toList, Array.getElem?_mapIdx, Array.getElem?_eq_getElem hc, Option.map_some, if_pos ⟨Nat.zero_le _, by omega⟩, Array.getElem?_toList, Array.getElem?_eq_getElem (by omega), Nat.sub_zero, getElem!_pos _ t (by omega)]
      rfl
    · rw [List.getElem?_eq_none (by rw [Array.length_toList]; omega)]
end Go.Proofs.YtohmledhhgdgaaaGreatDoor

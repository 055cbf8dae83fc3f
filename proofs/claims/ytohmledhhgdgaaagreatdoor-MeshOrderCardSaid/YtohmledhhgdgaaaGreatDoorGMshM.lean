/- What is known of a vehicle: a range over the reports that fit; Known. -/
import Derived.Test.YtohmledhhgdgaaaGreatDoorGMshK
import Derived.Test.YtohmledhhgdgaaaGreatDoorGMshL
set_option linter.unusedVariables false
set_option linter.unusedSimpArgs false
namespace Go.Proofs.YtohmledhhgdgaaaGreatDoor
set_option maxRecDepth 100000
set_option maxHeartbeats 16000000
open Sh Go.RowKit
namespace Sh
variable {P : Program} {w w' : World} {K : Value → World → Prop} {X : List PanicEntry → World → Prop}
theorem app_own3 {base : Nat} {T e : TypeId} {ty : TypeId} {cs : Array Bool} {i : TypeInfo} {z : Value} {sz bytes : Nat} (hT : P.underlying T = some (.slice e)) (hi : P.info? e = some i) (hz : i.zero = some z)
    (hsz : i.size = sz) (hby : i.bytes = bytes) (hzs : z.cells.size = sz) (hpos : 0 < sz)
    {v x : Value} {n m : Nat} {xs news : List Value} (hown : w.ownsRow base e sz v n xs) (hx : Sl w sz x m news) (h1 : ∀ u ∈ news, u.oneCell' = true) (hb : (n + m) * bytes ≤ 140737488355328) (h63 : n + m ≤ 140737488355328) (hbase : base ≤ w.heap.size)
    (hk : ∀ v' w1, w1.ownsRow base e sz v' (n + m) (xs ++ news) → Mod (fun k => v.ownBlock = some k) w w1 → (∀ k, v'.ownBlock = some k → v.ownBlock = some k ∨ w.heap.size ≤ k) → w1.ownsRow base e sz v n xs → K v' w1) :
    CallB P .append #[T, T] ty cs #[v, x] w K X := by
  obtain ⟨a, c, rfl, hmc, hcm, hl, hr⟩ := hx
  have hfin : ∀ v' w1, (Builtin.append_ #[T, T] ty #[v, .slice a m c]).run P w = .ok v' w1 → K v' w1 → CallB P .append #[T, T] ty cs #[v, .slice a m c] w K X := fun v' w1 he hK => by
    simp only [CallB, Do, builtin, Sem.run_bind, he, Result.andThen_ok, Sem.run_pure]; exact hK
  rcases hr with rfl | ⟨b, o, rfl, hlt, hc⟩
  · have hm0 : m = 0 := by
      have : m * sz = 0 := by simpa using hl.symm
      rcases Nat.mul_eq_zero.1 this with h | h <;> omega
    subst hm0
    rcases hown.2 with ⟨rfl, rfl⟩ | ⟨g, cap, cur, rfl, hb, hg, hn, hcc, _⟩
    · rw [app_none hT hi (Nat.le_refl _)]
      exact hk _ _ (by simpa using hown) (Mod.refl _ _) (fun _ h => .inl h) hown
    · rw [app_none hT hi hn]
      exact hk _ _ (by simpa using hown) (Mod.refl _ _) (fun _ h => .inl h) hown
  · have hnews : ∀ j u, news[j]? = some u → w.cell? ((⟨b, o, none⟩ : Addr).add j) = some u := fun j u hu => by
      have := hc j u hu
      unfold Addr.add
      split
      · rename_i hj; subst hj; simpa using this
      · exact this
    obtain ⟨v', w1, he, h2, h3, h4⟩ := run_append_own (P := P) w base T ty e i z sz bytes hT hi hz hsz hby hzs hpos v n xs hown ⟨b, o, none⟩ m c news hl hnews h1 (by simp only [maxLen]; omega) hb hbase
    have h5 : (∀ k, v'.ownBlock = some k → v.ownBlock = some k ∨ w.heap.size ≤ k) ∧ w1.ownsRow base e sz v n xs := by
      subst hsz
      subst hby
      rcases hown.2 with ⟨rfl, rfl⟩ | ⟨g, cap, cur, rfl, hbg, hg, hnc, hccm, hcs, htake⟩
      · refine ⟨fun k hv => ?_, ⟨hown.1, .inl ⟨rfl, rfl⟩⟩⟩
        by_cases hm : m = 0
        · have := h4.2 ⟨rfl, hm⟩
          subst this; simp [Value.ownBlock] at hv
        · have hr := run_append_nil (P := P) w T ty e i z hT hi hz ⟨b, o, none⟩ m c news hl hnews (by omega) (by omega) (by have hb := hb; simp only [Nat.zero_add] at hb; omega)
          rw [he] at hr
          simp only [Result.ok.injEq] at hr
          rw [hr.1] at hv
          simp only [Value.ownBlock, Option.some.injEq] at hv
          right; omega
      · by_cases hroom : n + m ≤ cap
        · have hfit : n * i.size + news.length ≤ cur.size := by rw [hl, hcs, ← Nat.add_mul]; exact Nat.mul_le_mul_right _ hroom
          have hr := run_append_room (P := P) w T ty e i hT hi g n cap cur hg ⟨b, o, none⟩ m c news hl hnews h1 hroom hfit
          rw [he] at hr
          simp only [Result.ok.injEq] at hr
          obtain ⟨hr1, hr2⟩ := hr
          refine ⟨fun k hv => ?_, hown.1, .inr ⟨g, cap, (cur.toList.take (n * i.size) ++ news ++ cur.toList.drop (n * i.size + news.length)).toArray, rfl, hbg, ?_, hnc, hccm, ?_, ?_⟩⟩
          · rw [hr1] at hv
            left; simpa [Value.ownBlock] using hv
          · rw [hr2]
            simp only [World.setRow, Array.getElem?_modify, if_true, hg, Option.map_some]
          · simp only [List.size_toArray, List.length_append, List.length_take, List.length_drop, Array.length_toList]
            have : n * i.size ≤ cur.size := by omega
            rw [hcs] at *
            omega
          · have hlen : (cur.toList.take (n * i.size)).length = n * i.size := by rw [htake]; exact hown.1
            simp only [List.append_assoc]
            rw [List.take_left' hlen]; exact htake
        · have holds : ∀ j u, xs[j]? = some u → w.cell? ((⟨g, 0, none⟩ : Addr).add j) = some u := hown.cells (g := g) rfl
          have hr := run_append_grow (P := P) w T ty e i z hT hi hz ⟨g, 0, none⟩ n cap xs hown.1 holds ⟨b, o, none⟩ m c news hl hnews (by omega) (by omega) (growslice_fits (by omega) hb)
          rw [he] at hr
          simp only [Result.ok.injEq] at hr
          obtain ⟨hr1, hr2⟩ := hr
          refine ⟨fun k hv => ?_, ?_⟩
          · rw [hr1] at hv
            simp only [Value.ownBlock, Option.some.injEq] at hv
            right; omega
          · rw [hr2]
            exact Own.ext hown ((Ext.drew w).trans (Ext.alloc _ _))
    exact hfin v' w1 he (hk v' w1 h2 (.grown h3) h5.1 h5.2)
def MF (Y : Nat → Prop) (F : World → Prop) (a b : World) : Prop := Mod Y a b ∧ (F a → F b)
theorem MF.refl (Y : Nat → Prop) (F : World → Prop) (a : World) : MF Y F a a := ⟨Mod.refl _ a, id⟩
theorem MF.trans {Y : Nat → Prop} {F : World → Prop} {a b c : World} (h : MF Y F a b) (h' : MF Y F b c) : MF Y F a c := ⟨h.1.trans h'.1, fun x => h'.2 (h.2 x)⟩
theorem drawF {body : (World → World → Prop) → (Nat → World → World → Prop) → World → Prop} (Y : Nat → Prop) (F : World → Prop) (h : ∀ w0, Ext w w0 → w0.heap.size = w.heap.size → body (MF Y F) S1 w0) : DrawR w body :=
  ⟨_, _, ⟨MF.refl Y F, fun _ _ _ => MF.trans, fun u a => by match u with | 0 => exact Ext.refl a | _ + 1 => trivial, fun u a b c => by match u with | 0 => exact Ext.trans | _ + 1 => exact fun _ _ => trivial⟩, h w.drew (Ext.drew w) rfl⟩
theorem det_f {Y : Nat → Prop} {F : World → Prop} {w0 : World} {op : World → (Value → World → Prop) → Prop} {rest : Value → (World → Prop) → Prop} (c : Value) (h : ∀ w1, MF Y F w0 w1 → ∀ K : Value → World → Prop, op w1 K = K c w1) (hk : rest c fun _ => True) :
    DetOp (MF Y F) (Both (MF Y F) S1) w0 op rest :=
  det_pure c (fun a => ⟨MF.refl Y F a, fun u => by match u with | 0 => exact Ext.refl a | _ + 1 => trivial⟩) (fun w1 h1 K hk => by rw [h w1 h1 K]; exact hk) hk
theorem nd_f {Y : Nat → Prop} {F : World → Prop} {w0 : World} {Θ : World → Prop} {op : World → (Value → World → Prop) → Prop} {rest : Value → (World → Prop) → Prop} (φ : Value → World → Prop) (hs : ∀ v a b, φ v a → Ext a b → φ v b) (hop : ∀ w1, MF Y F w0 w1 → Θ w1 → op w1 fun v w2 => MF Y F w1 w2 ∧ φ v w2) (hk : ∀ v, rest v (φ v)) : NdC (MF Y F) S1 0 w0 Θ op rest :=
  ⟨φ, hs, fun w1 h1 hΘ => by
    have := hop w1 h1 hΘ
    have e : (fun (v : Value) (w2 : World) => MF Y F w1 w2 ∧ φ v w2) = fun v w2 => (MF Y F w1 w2 ∧ ∀ u, u ≠ 0 → S1 u w1 w2) ∧ φ v w2 := by
      funext v w2
      exact propext ⟨fun h => ⟨⟨h.1, fun u hu => by match u, hu with | _ + 1, _ => trivial⟩, h.2⟩, fun h => ⟨h.1.1, h.2⟩⟩
    rw [e] at this
    exact this, hk⟩
theorem thr_f {Y : Nat → Prop} {F : World → Prop} {w0 : World} {chain : (World → Prop) → (List Value → (World → Prop) → Prop) → Prop} {rest : (List Value → World → Prop) → Prop} (Θ : World → Prop) (hΘ : Θ w0) (hΘs : ∀ a b, Θ a → Ext a b → Θ b) (Φ : List Value → World → Prop) (hc : chain Θ fun vs Θ => ∀ w1, MF Y F w0 w1 → Θ w1 → Φ vs w1) (hk : rest Φ) : ThrE (MF Y F) S1 0 w0 chain rest :=
  ⟨Θ, Φ, hΘ, hΘs, hc, hk⟩
end Sh
structure KC where
  w0 : World
  D : Nat
  jb : Nat
  p7 : Nat
  b2 : Nat
  b3 : Nat
  v : Int
  sl : Hdr
def KC.Ok (C : KC) : Prop := C.w0.heap.size ≤ C.jb ∧ C.jb < C.D ∧ C.p7 < C.D ∧ C.b2 < C.D ∧ C.b3 < C.D
def KInv (C : KC) (k : List SEntry) (U : World) : Prop := ∃ sj : SJoin, Ext C.w0 U ∧ C.D + 2 ≤ U.heap.size ∧ KAt C.w0.heap.size C.jb C.v k U sj ∧ Off (fun x => x = C.D ∨ x = C.D + 1) sj.ents.val ∧ Off (fun x => x = C.D ∨ x = C.D + 1) sj.chains.val ∧
  At U C.p7 (.cells #[.pointer (some ⟨C.jb, 0, none⟩)] 78 (0, 0)) ∧ At U C.b2 (.cells #[.pointer (some ⟨C.jb, 0, none⟩)] 78 (0, 0)) ∧ At U C.b3 (.cells #[C.sl.val] 22 (0, 0))
theorem KInv.of_ext {C : KC} {k : List SEntry} {U U' : World} (h : KInv C k U) (x : Ext U U') : KInv C k U' := by
  obtain ⟨sj, h1, h2, h3, h4, h5, h6, h7, h8⟩ := h
  exact ⟨sj, h1.trans x, by have := x.size; omega, h3.ext x, h4, h5, h6.ext x, h7.ext x, h8.ext x⟩
theorem KInv.loop {C : KC} (hC : C.Ok) {k : List SEntry} {U U' : World} (h : KInv C k U) (m : Mod (· = C.D + 1) U U') : KInv C k U' := by
  obtain ⟨c1, c2, c3, c4, c5⟩ := hC
  obtain ⟨sj, h1, h2, ⟨g1, g2, g3, g4⟩, h4, h5, h6, h7, h8⟩ := h
  refine ⟨sj, ((Mod.of_ext h1 : Mod (C.w0.heap.size ≤ ·) C.w0 U).trans (m.mono fun k _ hk => by omega)).new, by have := m.size; omega, ⟨g1, g2.mod m (by omega), Own.mod g3 m fun k hk e => h4 k hk (.inr e), Own.mod g4 m fun k hk e => h5 k hk (.inr e)⟩, h4, h5, h6.mod m (by omega), h7.mod m (by omega), h8.mod m (by omega)⟩
def slen : Value → Nat
  | .slice _ n _ => n
  | _ => 0
def klen (jb : Nat) (U : World) : Nat := match U.heap[jb]? with
  | some (.cells cs _ _) => slen ((cs[1]?).getD undef)
  | _ => 0
theorem KInv.klen {C : KC} {k : List SEntry} {U : World} (h : KInv C k U) : klen C.jb U = k.length := by
  obtain ⟨sj, _, _, ⟨_, g2, g3, _⟩, _⟩ := h
  unfold At at g2
  obtain ⟨a, c, he, _⟩ := Sl.of_owns g3
  unfold Go.Proofs.YtohmledhhgdgaaaGreatDoor.klen
  rw [g2]
  show slen sj.ents.val = _
  rw [he]
  rfl
theorem Ty.join_zero (w : World) : (zeroValue 78).run Tryz.prog w = .ok (.pointer none) w := by kernel_rfl
theorem Ty.join_size (w : World) : (sizeOf 78).run Tryz.prog w = .ok 1 w := by kernel_rfl
theorem new_join26 (n : Int) (d : Hdr) : Tryz.prog.built 82 [(0, .int .i64 n), (2, d.val)] = some (⟨n, ⟨none, 0, 0⟩, d⟩ : SJoin).cells.toArray := by kernel_rfl
def KnownQ (b : MBox) (v : Int) (w : World) (u : Value) (w' : World) : Prop := ∃ a, u = .tuple #[a, u64v (knownV b v).2.1, .int .i64 (knownV b v).2.2] ∧ SEntry.Row w' a (knownV b v).1 ∧ Ext w w'
theorem Grows_find {v : Int} {l : List Rep.Rpt} {k m : List SEntry} (h : Msh.Grows v l k m) {i : Nat} (hi : i < l.length) (h1 : Msh.fits v k l[i] = true) (h2 : ∀ x ∈ l.take i, Msh.fits v k x = false) : Msh.Grows v l (Msh.grown k l[i]) m := by
  have hf : l.find? (Msh.fits v k) = some l[i] := by
    have e : l.find? (Msh.fits v k) = (l.take i ++ l.drop i).find? (Msh.fits v k) := by rw [List.take_append_drop]
    rw [e, List.find?_append, List.find?_eq_none.2 fun x hx => by rw [h2 x hx]; decide, Option.none_or, List.drop_eq_getElem_cons hi, List.find?_cons, h1]
  cases h with
  | stop hn => rw [hf] at hn; cases hn
  | step hs hg => rw [hf] at hs; cases hs; exact hg
theorem Grows_none {v : Int} {l : List Rep.Rpt} {k m : List SEntry} (h : Msh.Grows v l k m) (h2 : ∀ x ∈ l, Msh.fits v k x = false) : m = k := by
  cases h with
  | stop hn => rfl
  | step hs hg =>
    have := h2 _ (List.mem_of_find?_eq_some hs)
    rw [List.find?_some hs] at this
    cases this
end Go.Proofs.YtohmledhhgdgaaaGreatDoor

/- Rows of flat structs: literals, appends, slices. No program in sight. -/
import Derived.Test.YtjinhojlnaplaaaDoorFlat
import Derived.Test.YtjinhojlnaplaaaDoorShort
namespace Go.Proofs.YtjinhojlnaplaaaDoor
set_option maxRecDepth 100000
namespace Sh
open Go.RowKit
variable {P : Program} {w w' : World} {K : Value → World → Prop} {X : List PanicEntry → World → Prop}
theorem Own.of_at {base g sz n : Nat} {e : TypeId} {xs : List Value} (h : At w g (.cells xs.toArray e (0, 0))) (hb : base ≤ g) (hn : n ≤ maxLen) (hl : xs.length = n * sz) : w.ownsRow base e sz (.slice (some ⟨g, 0, none⟩) n n) n xs :=
  ⟨hl, .inr ⟨g, n, _, rfl, hb, h, Nat.le_refl _, hn, by simpa using hl, by simp [← hl]⟩⟩
/-- A literal of elements. -/
theorem lit_els {α : Type} {c : α → List Value} {T e : TypeId} {i : TypeInfo} {z : Value} {sz n : Nat} {parts : Array (Nat × Value)} (x : α → Value) (as : List α) (hT : P.underlying T = some (.slice e)) (hi : P.info? e = some i) (hz : i.zero = some z)
    (hsz : i.size = sz) (hpos : 0 < sz) (hc : ∀ a, (c a).length = sz) (hx : ∀ a, (x a).cells = (c a).toArray) (hn : as.length = n) (hn0 : 0 < n) (hsm : n * sz ≤ 16777216)
    (hp : parts.toList = ((as.map x).zipIdx 0).map fun y => (y.2, y.1))
    (hk : ∀ v w1, Ext w w1 → w1.ownsRow w.heap.size e sz v as.length (fl c as) → w1.heap.size = w.heap.size + 1 → K v w1) : DoV P (Instr.buildSlice T n parts) w K X := by
  have hn1 : n ≤ 16777216 := Nat.le_trans (Nat.le_mul_of_pos_right n hpos) hsm
  have hfl : (fl c as).length = n * sz := by rw [fl_length hc, hn]
  have e1 := run_buildSlice (P := P) w T e n parts (fl c as).toArray i z hT hi hz (by rw [hsz]; omega) (by rw [hsz]; exact Nat.ne_of_gt (Nat.mul_pos hn0 hpos)) (by
    obtain ⟨r, hr, hsz2, hkk⟩ := Great.fill_dense (s := i.size) (by omega) (as.map x) 0 ((Array.range (n * i.size)).map (z.cells[· % z.cells.size]!)) (fun v hv => by obtain ⟨a, _, rfl⟩ := List.mem_map.1 hv; rw [hx, hsz]; simpa using hc a) (by simp [hn])
    rw [hp, hr]
    congr 1
    apply Array.ext_getElem?
    intro k
    rw [hkk k]
    by_cases hlt : k < n * sz
    · rw [if_pos (by rw [List.length_map, hn, hsz, Nat.zero_add]; omega), hsz, Nat.sub_zero]
      have hd : k / sz < as.length := by rw [hn, Nat.div_lt_iff_lt_mul hpos]; exact hlt
      rw [List.getElem?_map, List.getElem?_eq_getElem hd, Option.map_some, Option.bind_some, hx]
      have hm : k % sz < (c as[k / sz]).length := by rw [hc]; exact Nat.mod_lt _ hpos
      have hg := fl_get hc (l := as) (k := k / sz) (j := k % sz) hd (List.getElem?_eq_getElem hm)
      rw [Nat.mul_comm, Nat.div_add_mod] at hg
      simp only [List.getElem?_toArray]
      rw [hg, List.getElem?_eq_getElem hm]
    · rw [if_neg (by rw [List.length_map, hn, hsz, Nat.zero_add]; omega)]
      rw [Array.getElem?_eq_none (by simp [hsz]; omega), Array.getElem?_eq_none (by simp [hfl]; omega)])
  rw [DoV_ok e1]
  refine hk _ _ (Ext.alloc _ _) ?_ (by simp)
  rw [hn]
  exact Own.of_at (by unfold At; exact heap_alloc_new w _) (Nat.le_refl _) (by simp only [maxLen]; omega) hfl
theorem lit0_e {T e : TypeId} {i : TypeInfo} {sz : Nat} (hT : P.underlying T = some (.slice e)) (hi : P.info? e = some i)
    (hk : ∀ v w1, Ext w w1 → w1.ownsRow w.heap.size e sz v 0 [] → w1.heap.size = w.heap.size + 1 → K v w1) : DoV P (Instr.buildSlice T 0 #[]) w K X := by
  have e1 : (Instr.buildSlice T 0 #[]).run P w = .ok (.slice (some ⟨w.heap.size, 0, none⟩) 0 0) (w.alloc (.cells #[] e)) := by
    simp [Instr.buildSlice, run_underlying hT, sizeOf, typeInfo, hi, Instr.fill, newRow, newObj, Sem.run]
    rw [show Array.range 0 = #[] by decide]; simp
  rw [DoV_ok e1]
  refine hk _ _ (Ext.alloc _ _) ⟨by simp, .inr ⟨w.heap.size, 0, #[], rfl, Nat.le_refl _, heap_alloc_new w _, Nat.le_refl _, Nat.zero_le _, by simp, by simp⟩⟩ (by simp)
/-- append of a row -/
theorem app_els {α : Type} {c : α → List Value} {base : Nat} {T e : TypeId} {ty : TypeId} {cs : Array Bool} {i : TypeInfo} {z : Value} {sz bytes : Nat} (hT : P.underlying T = some (.slice e)) (hi : P.info? e = some i) (hz : i.zero = some z)
    (hsz : i.size = sz) (hby : i.bytes = bytes) (hzs : z.cells.size = sz) (hpos : 0 < sz) (h1 : ∀ a, ∀ u ∈ c a, u.oneCell' = true)
    {v x : Value} {l m : List α} (hown : w.ownsRow base e sz v l.length (fl c l)) (hx : Sl w sz x m.length (fl c m)) (hb : (l.length + m.length) * bytes ≤ 140737488355328) (h63 : l.length + m.length ≤ 140737488355328) (hbase : base ≤ w.heap.size)
    (hk : ∀ v' w1, w1.ownsRow base e sz v' (l ++ m).length (fl c (l ++ m)) → Mod (fun k => v.ownBlock = some k) w w1 → K v' w1) :
    CallB P .append #[T, T] ty cs #[v, x] w K X := by
  refine app_own hT hi hz hsz hby hzs hpos hown hx (fl_one h1 m) hb h63 hbase fun v' w2 h2 hm _ => ?_
  refine hk v' w2 ?_ hm
  rw [fl_append, List.length_append]; exact h2
theorem app_own_mod {base : Nat} {e : TypeId} {sz n : Nat} {v : Value} {xs : List Value} {w1 : World} (hown : w.ownsRow base e sz v n xs) (hm : Mod (fun k => v.ownBlock = some k) w w1) : Mod (base ≤ ·) w w1 := hm.mono fun k _ hk => (Own.block hown hk).1
/-- append onto a row of one's own, and where the new one lies. -/
theorem app_own2 {base : Nat} {T e : TypeId} {ty : TypeId} {cs : Array Bool} {i : TypeInfo} {z : Value} {sz bytes : Nat} (hT : P.underlying T = some (.slice e)) (hi : P.info? e = some i) (hz : i.zero = some z)
    (hsz : i.size = sz) (hby : i.bytes = bytes) (hzs : z.cells.size = sz) (hpos : 0 < sz)
    {v x : Value} {n m : Nat} {xs news : List Value} (hown : w.ownsRow base e sz v n xs) (hx : Sl w sz x m news) (h1 : ∀ u ∈ news, u.oneCell' = true) (hb : (n + m) * bytes ≤ 140737488355328) (h63 : n + m ≤ 140737488355328) (hbase : base ≤ w.heap.size)
    (hk : ∀ v' w1, w1.ownsRow base e sz v' (n + m) (xs ++ news) → Mod (fun k => v.ownBlock = some k) w w1 → (∀ k, v'.ownBlock = some k → v.ownBlock = some k ∨ w.heap.size ≤ k) → K v' w1) :
    CallB P .append #[T, T] ty cs #[v, x] w K X := by
  obtain ⟨a, c, rfl, hmc, hcm, hl, hr⟩ := hx
  have hfin : ∀ v' w1, (Builtin.append_ #[T, T] ty #[v, .slice a m c]).run P w = .ok v' w1 → K v' w1 → CallB P .append #[T, T] ty cs #[v, .slice a m c] w K X := fun v' w1 he hK => by
    simp only [CallB, Do, builtin, Sem.run_bind, he, Result.andThen_ok, Sem.run_pure]; exact hK
  rcases hr with rfl | ⟨b, o, rfl, hlt, hc⟩
  · have hm0 : m = 0 := by
      have : m * sz = 0 := by simpa using hl.symm
      rcases Nat.mul_eq_zero.1 this with h | h <;> omega
    subst hm0
    rcases hown.2 with ⟨rfl, rfl⟩ | ⟨g, cap, cur, rfl, hb, hg, hn, hcc, _⟩
    · rw [app_none hT hi (Nat.le_refl _)]
      exact hk _ _ (by simpa using hown) (Mod.refl _ _) (fun _ h => .inl h)
    · rw [app_none hT hi hn]
      exact hk _ _ (by simpa using hown) (Mod.refl _ _) (fun _ h => .inl h)
  · have hnews : ∀ j u, news[j]? = some u → w.cell? ((⟨b, o, none⟩ : Addr).add j) = some u := fun j u hu => by
      have := hc j u hu
      unfold Addr.add
      split
      · rename_i hj; subst hj; simpa using this
      · exact this
    obtain ⟨v', w1, he, h2, h3, h4⟩ := run_append_own (P := P) w base T ty e i z sz bytes hT hi hz hsz hby hzs hpos v n xs hown ⟨b, o, none⟩ m c news hl hnews h1 (by simp only [maxLen]; omega) hb hbase
    refine hfin v' w1 he (hk v' w1 h2 (.grown h3) fun k hv => ?_)
    subst hsz
    subst hby
    rcases hown.2 with ⟨rfl, rfl⟩ | ⟨g, cap, cur, rfl, hbg, hg, hnc, hccm, hcs, htake⟩
    · by_cases hm : m = 0
      · have := h4.2 ⟨rfl, hm⟩
        subst this; simp [Value.ownBlock] at hv
      · have hr := run_append_nil (P := P) w T ty e i z hT hi hz ⟨b, o, none⟩ m c news hl hnews (by omega) (by omega) (by have hb := hb; simp only [Nat.zero_add] at hb; omega)
        rw [he] at hr
        simp only [Result.ok.injEq] at hr
        rw [hr.1] at hv
        simp only [Value.ownBlock, Option.some.injEq] at hv
        right; omega
    · by_cases hroom : n + m ≤ cap
      · have hfit : n * i.size + news.length ≤ cur.size := by rw [hl, hcs, ← Nat.add_mul]; exact Nat.mul_le_mul_right _ hroom
        have hr := run_append_room (P := P) w T ty e i hT hi g n cap cur hg ⟨b, o, none⟩ m c news hl hnews h1 hroom hfit
        rw [he] at hr
        simp only [Result.ok.injEq] at hr
        rw [hr.1] at hv
        left; simpa [Value.ownBlock] using hv
      · have holds : ∀ j u, xs[j]? = some u → w.cell? ((⟨g, 0, none⟩ : Addr).add j) = some u := hown.cells (g := g) rfl
        have hr := run_append_grow (P := P) w T ty e i z hT hi hz ⟨g, 0, none⟩ n cap xs hown.1 holds ⟨b, o, none⟩ m c news hl hnews (by omega) (by omega) (growslice_fits (by omega) hb)
        rw [he] at hr
        simp only [Result.ok.injEq] at hr
        rw [hr.1] at hv
        simp only [Value.ownBlock, Option.some.injEq] at hv
        right; omega
/-- Two chains: the first turns blocks of Y, the second those of Z. -/
def S2 (A B : Nat → Prop) : Nat → World → World → Prop
  | 0 => Mod A
  | 1 => Mod B
  | _ => fun _ _ => True
theorem drawR2 {w : World} {body : (World → World → Prop) → (Nat → World → World → Prop) → World → Prop} (Y Z : Nat → Prop) (h : body (Mod fun k => Y k ∨ Z k) (S2 Z Y) w.drew) : DrawR w body :=
  ⟨_, _, ⟨fun a => Mod.refl _ a, fun _ _ _ => Mod.trans, fun u a => by match u with | 0 => exact Mod.refl _ a | 1 => exact Mod.refl _ a | _ + 2 => trivial, fun u a b c => by match u with | 0 => exact Mod.trans | 1 => exact Mod.trans | _ + 2 => exact fun _ _ => trivial⟩, h⟩
theorem both2_refl (Y Z : Nat → Prop) (a : World) : Both (Mod fun k => Y k ∨ Z k) (S2 Z Y) a a := ⟨Mod.refl _ a, fun u => by match u with | 0 => exact Mod.refl _ a | 1 => exact Mod.refl _ a | _ + 2 => trivial⟩
theorem det_r2 {Y Z : Nat → Prop} {w0 : World} {op : World → (Value → World → Prop) → Prop} {rest : Value → (World → Prop) → Prop} (c : Value) (h : ∀ w1, Mod (fun k => Y k ∨ Z k) w0 w1 → ∀ K : Value → World → Prop, op w1 K = K c w1) (hk : rest c fun _ => True) :
    DetOp (Mod fun k => Y k ∨ Z k) (Both (Mod fun k => Y k ∨ Z k) (S2 Z Y)) w0 op rest :=
  det_pure c (both2_refl Y Z) (fun w1 h1 K hk => by rw [h w1 h1 K]; exact hk) hk
theorem S2_0 {Y Z : Nat → Prop} : ∀ u, u ≠ 0 → ∀ a b, Mod Y a b → S2 Z Y u a b := fun u hu a b h => by match u, hu with | 1, _ => exact h | _ + 2, _ => trivial
theorem S2_1 {Y Z : Nat → Prop} : ∀ u, u ≠ 1 → ∀ a b, Mod Z a b → S2 Z Y u a b := fun u hu a b h => by match u, hu with | 0, _ => exact h | _ + 2, _ => trivial
/-- In a region that draws: one more element onto a row of one's own, as a chain. -/
theorem thr_append {α : Type} {c : α → List Value} {base t : Nat} {T e : TypeId} {ty : TypeId} {cs : Array Bool} {i : TypeInfo} {z : Value} {sz bytes : Nat} {w0 : World} {R : World → World → Prop} {S : Nat → World → World → Prop} {By Bz : Nat → Prop} {X X' : List PanicEntry → World → Prop}
    {rest : (List Value → World → Prop) → Prop} (hT : P.underlying T = some (.slice e)) (hi : P.info? e = some i) (hz : i.zero = some z)
    (hsz : i.size = sz) (hby : i.bytes = bytes) (hzs : z.cells.size = sz) (hpos : 0 < sz) (hsm : sz ≤ 1000) (hc : ∀ a, (c a).length = sz) (h1 : ∀ a, ∀ u ∈ c a, u.oneCell' = true)
    (hR : R = Mod fun k => By k ∨ Bz k) (hS : S t = Mod Bz) (hSu : ∀ u, u ≠ t → ∀ a b, Mod By a b → S u a b) {y x : Value} {l : List α} {a : α} (hx : x.cells = (c a).toArray)
    (hBy : ∀ k, y.ownBlock = some k → By k) (hBz : ∀ k, Bz k → k < w0.heap.size) (hne : ∀ k, y.ownBlock = some k → ¬ Bz k)
    (hown : w0.ownsRow base e sz y l.length (fl c l)) (hb : (l.length + 1) * bytes ≤ 140737488355328) (h63 : l.length + 1 ≤ 140737488355328) (hbase : base ≤ w0.heap.size)
    (hk : rest fun vs w1 => ∃ v v', vs = [v, v'] ∧ w1.ownsRow base e sz v' (l ++ [a]).length (fl c (l ++ [a]))) :
    ThrE R S t w0 (fun Θ T1 => NdC R S t w0 Θ (fun w1 K => DoV P (Instr.buildSlice T 1 #[(0, x)]) w1 K X) fun v φ => NdC R S t w0 φ (fun w1 K => CallB P .append #[T, T] ty cs #[y, v] w1 K X') fun v' φ' => T1 [v, v'] φ') rest := by
  subst hR
  refine ⟨fun w1 => w1.ownsRow base e sz y l.length (fl c l), fun vs w1 => ∃ v v', vs = [v, v'] ∧ w1.ownsRow base e sz v' (l ++ [a]).length (fl c (l ++ [a])), hown, ?_, ?_, hk⟩
  · intro w1 w2 ho hs
    rw [hS] at hs
    exact Own.mod ho hs fun k hk => hne k hk
  · refine ⟨fun v w1 => w1.ownsRow base e sz y l.length (fl c l) ∧ w1.ownsRow w0.heap.size e sz v 1 (c a), ?_, ?_, fun v => ?_⟩
    · rintro v w1 w2 ⟨ho, hv⟩ hs
      rw [hS] at hs
      exact ⟨Own.mod ho hs fun k hk => hne k hk, Own.mod hv hs fun k hk hbz => by have := (Own.block hv hk).1; have := hBz k hbz; omega⟩
    · intro w1 hr ho
      have z1 := hr.size
      refine lit_els (c := fun _ : Unit => c a) (fun _ => x) [()] hT hi hz hsz hpos (fun _ => hc a) (fun _ => hx) rfl (by decide) (by omega) rfl fun v w2 x2 h2 _ => ?_
      · refine ⟨⟨.of_ext x2, fun u hu => hSu u hu _ _ (.of_ext x2)⟩, Own.ext ho x2, ?_⟩
        have := Own.mono h2 z1
        simpa [fl] using this
    · refine ⟨fun v' w1 => w1.ownsRow base e sz v' (l ++ [a]).length (fl c (l ++ [a])) ∧ ∀ k, v'.ownBlock = some k → ¬ Bz k, ?_, ?_, fun v' => ?_⟩
      · rintro v' w1 w2 ⟨ho, hv⟩ hs
        rw [hS] at hs
        exact ⟨Own.mod ho hs fun k hk => hv k hk, hv⟩
      · rintro w1 hr ⟨ho, hv⟩
        have z1 := hr.size
        refine app_own2 hT hi hz hsz hby hzs hpos ho (Sl.of_owns hv) (h1 a) hb h63 (by omega) fun v' w2 h2 hm hbl => ?_
        refine ⟨⟨hm.mono fun k _ hk => .inl (hBy k hk), fun u hu => hSu u hu _ _ (hm.mono fun k _ hk => hBy k hk)⟩, ?_, fun k hk hbz => ?_⟩
        · rw [fl_append]; simpa [fl] using h2
        · rcases hbl k hk with h | h
          · exact hne k h hbz
          · have := hBz k hbz; omega
      · rintro w1 _ ⟨ho, _⟩
        exact ⟨v, v', rfl, ho⟩
/-- In a region that draws: a literal of one element, as a chain. -/
theorem thr_lit {α : Type} {c : α → List Value} {t : Nat} {T e : TypeId} {i : TypeInfo} {z : Value} {sz : Nat} {w0 : World} {R : World → World → Prop} {S : Nat → World → World → Prop} {Q Bz : Nat → Prop} {X : List PanicEntry → World → Prop}
    {rest : (List Value → World → Prop) → Prop} (hT : P.underlying T = some (.slice e)) (hi : P.info? e = some i) (hz : i.zero = some z)
    (hsz : i.size = sz) (hpos : 0 < sz) (hsm : sz ≤ 1000) (hc : ∀ a, (c a).length = sz)
    (hR : R = Mod Q) (hS : S t = Mod Bz) (hSu : ∀ u, u ≠ t → ∀ a b, Ext a b → S u a b) {x : Value} {a : α} (hx : x.cells = (c a).toArray)
    (hBz : ∀ k, Bz k → k < w0.heap.size)
    (hk : rest fun vs w1 => ∃ v, vs = [v] ∧ w1.ownsRow w0.heap.size e sz v 1 (c a)) :
    ThrE R S t w0 (fun Θ T1 => NdC R S t w0 Θ (fun w1 K => DoV P (Instr.buildSlice T 1 #[(0, x)]) w1 K X) fun v φ => T1 [v] φ) rest := by
  subst hR
  refine ⟨fun _ => True, fun vs w1 => ∃ v, vs = [v] ∧ w1.ownsRow w0.heap.size e sz v 1 (c a), trivial, fun _ _ _ _ => trivial, ?_, hk⟩
  refine ⟨fun v w1 => w1.ownsRow w0.heap.size e sz v 1 (c a), ?_, ?_, fun v w1 _ hv => ⟨v, rfl, hv⟩⟩
  · intro v w1 w2 hv hs
    rw [hS] at hs
    exact Own.mod hv hs fun k hk hbz => by have := (Own.block hv hk).1; have := hBz k hbz; omega
  · intro w1 hr _
    have z1 := hr.size
    refine lit_els (c := fun _ : Unit => c a) (fun _ => x) [()] hT hi hz hsz hpos (fun _ => hc a) (fun _ => hx) rfl (by decide) (by omega) rfl fun v w2 x2 h2 _ => ?_
    refine ⟨⟨.of_ext x2, fun u hu => hSu u hu _ _ x2⟩, ?_⟩
    have := Own.mono h2 z1
    simpa [fl] using this
end Sh
end Go.Proofs.YtjinhojlnaplaaaDoor

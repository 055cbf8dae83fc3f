/- The walk of Get: the deferred call that recovers. -/
import Derived.Test.YtahplhcijlgelaaGetW
import Derived.Defers
import Derived.Recover
namespace Go.Proofs.Ytahplhcijlgelaa
open Sh Go.RowKit
set_option maxRecDepth 100000
theorem caught_panicking {bl be : Nat} {vl : Value} {ve : Value} (older : List PanicEntry) (w : World) (hl : At1 w bl vl 45) (he : At1 w be ve 32) (hne : bl ≠ be) :
    CallsD Try.prog 53 #[.pointer (some ⟨bl, 0, none⟩), .pointer (some ⟨be, 0, none⟩)] (.panicking ({ v := brokenV, recovered := false } :: older)) w fun e u' w' =>
      u' = .panicking ({ v := brokenV, recovered := true } :: older) ∧ e = .returned (.tuple #[]) ∧ At1 w' bl (.slice none 0 0) 45 ∧ At1 w' be formE 32 ∧ Mod (fun k => k = bl ∨ k = be) w w' := by
  refine sh_codec_caught_ok _ _ ?_
  unfold sh_codec_caught
  have e1 : recV (.panicking ({ v := brokenV, recovered := false } :: older)) = brokenV := rfl
  rw [e1]
  have e2 : ∀ w, (binS BinOp.eql 20 (Operand.tmp 7) (Operand.const Value.nilIface) brokenV Value.nilIface).run Try.prog w = .ok (.bool false) w := by intro w; kernel_rfl
  have e3 : ∀ w, (Instr.typeAssert brokenV 20 104 true).run Try.prog w = .ok (.tuple #[.agg #[], .bool true]) w := by intro w; kernel_rfl
  rw [DoV_ok (e2 w), Br_bool, if_neg (by decide), DoV_ok (e3 w), ext2_1, ext2_0, Br_bool, if_pos rfl]
  refine alloc_i Ty.broken_zero fun b w1 hx hat hb _ => ?_
  have e4 : (Instr.storeAt 104 (.pointer (some ⟨b, 0, none⟩)) (.agg #[])).run Try.prog w1 = .ok () w1 := by
    simp [Instr.storeAt, Instr.sureAddr, storeVar, Value.cells, storeCells]
  rw [DoU_ok e4, nil_ptr]
  have hl1 := At.ext hl hx
  have he1 := At.ext he hx
  refine store_x Ty.ints_size hl1 (by simp) rfl rfl fun w2 hm2 hat2 hs2 => ?_
  rw [nil_ptr]
  have he2 := he1.mod hm2 (fun e => hne e.symm)
  refine store_x Ty.errno_size he2 (by simp) rfl rfl fun w3 hm3 hat3 hs3 => ?_
  refine ⟨rfl, hat2.mod hm3 hne, hat3, ?_⟩
  exact ((Mod.of_ext hx).comp hm2 (fun _ _ h => h) (fun _ _ h => .inl h)).comp hm3 (fun _ _ h => h) (fun _ _ h => .inr h)
theorem caught_idle {bl be : Nat} (w : World) :
    CallsD Try.prog 53 #[.pointer (some ⟨bl, 0, none⟩), .pointer (some ⟨be, 0, none⟩)] .returning w fun e u' w' => u' = .returning ∧ e = .returned (.tuple #[]) ∧ w' = w := by
  refine sh_codec_caught_ok _ _ ?_
  unfold sh_codec_caught
  have e1 : recV .returning = .nilIface := rfl
  have e2 : ∀ w, (binS BinOp.eql 20 (Operand.tmp 7) (Operand.const Value.nilIface) .nilIface Value.nilIface).run Try.prog w = .ok (.bool true) w := by intro w; kernel_rfl
  rw [e1, DoV_ok (e2 w), Br_bool, if_pos rfl]
  exact ⟨rfl, rfl⟩

theorem go28 : goes Try.prog 53 = true := by kernel_rfl
theorem get_results (tmps : Array Value) (bl be : Nat) (vl ve : Value) (w : World) (h2 : tmps.getD 2 undef = .pointer (some ⟨bl, 0, none⟩)) (h3 : tmps.getD 3 undef = .pointer (some ⟨be, 0, none⟩)) (hl : At1 w bl vl 45) (he : At1 w be ve 32) :
    (results Try.f47 tmps).run Try.prog w = .ok (.tuple #[vl, ve]) w := by
  have hr : Try.f47.results = #[.cell 2 45, .cell 3 32] := rfl
  have l1 : (loadVar 45 ⟨bl, 0, none⟩).run Try.prog w = .ok vl w := loadVar_at Ty.ints_agg hl rfl
  have l2 : (loadVar 32 ⟨be, 0, none⟩).run Try.prog w = .ok ve w := loadVar_at Ty.errno_agg he rfl
  rw [Array.getD_eq_getD_getElem?] at h2 h3
  simp [results, h2, h3, asAddr, l1, l2]
def getVs (bl be : Nat) : List (Nat × Value) := [(2, .pointer (some ⟨bl, 0, none⟩)), (3, .pointer (some ⟨be, 0, none⟩))]
def getDs (bl be : Nat) : List Deferred := [{ target := .fn (.func 53) #[], args := #[.pointer (some ⟨bl, 0, none⟩), .pointer (some ⟨be, 0, none⟩)] }]
theorem get_leaves {bl be : Nat} {vl ve : Value} {w : World} {R : Ending → World → Prop} (hl : At1 w bl vl 45) (he : At1 w be ve 32) (h : R (.returned (.tuple #[vl, ve])) w) :
    LeavesE Try.prog Try.f47 (getVs bl be) R (getDs bl be) .returning w := by
  intro tmps ht
  have h2 := ht (2, _) (by simp [getVs]; rfl)
  have h3 := ht (3, _) (by simp [getVs]; rfl)
  refine leaves_cons (f := 53) (args := #[.pointer (some ⟨bl, 0, none⟩), .pointer (some ⟨be, 0, none⟩)]) (by simp) (by simp [invoke, run_goes go28]) ?_
  refine (caught_idle w).mono ?_
  rintro e u' w' ⟨rfl, rfl, rfl⟩
  exact ⟨_, get_results tmps bl be vl ve w' h2 h3 hl he, h⟩
theorem get_breaks {bl be : Nat} {vl ve : Value} {w : World} {R : Ending → World → Prop} (hl : At1 w bl vl 45) (he : At1 w be ve 32) (hne : bl ≠ be)
    (h : ∀ w', Mod (fun k => k = bl ∨ k = be) w w' → R (.returned (.tuple #[.slice none 0 0, formE])) w') :
    LeavesE Try.prog Try.f47 (getVs bl be) R (getDs bl be) (.panicking [{ v := brokenV, recovered := false }]) w := by
  intro tmps ht
  have h2 := ht (2, _) (by simp [getVs]; rfl)
  have h3 := ht (3, _) (by simp [getVs]; rfl)
  refine leaves_cons (f := 53) (args := #[.pointer (some ⟨bl, 0, none⟩), .pointer (some ⟨be, 0, none⟩)]) (by simp) (by simp [invoke, run_goes go28]) ?_
  refine (caught_panicking [] w hl he hne).mono ?_
  rintro e u' w' ⟨rfl, rfl, hl', he', hm⟩
  exact ⟨_, get_results tmps bl be _ _ w' h2 h3 hl' he', h w' hm⟩
/-- What Get of either kind returns. -/
def GetQ (l : List UInt8) (w : World) (r : Value) (w' : World) : Prop :=
  Ext w w' ∧ match Cod.get l with
    | none => r = .tuple #[.slice none 0 0, formE]
    | some ns => ∃ v, r = .tuple #[v, okE] ∧ w'.ownsRow w.heap.size 3 1 v ns.length (iv ns)
theorem Get_ret {v : Value} {l : List UInt8} (w : World) (hv : Sl w 1 v l.length (bv l)) : Ret Try.prog 47 #[v] w (GetQ l w) := by
  refine ret_of (fun _ _ => sh_codec_Get_ok _) fun R hR => ?_
  unfold sh_codec_Get
  have hcell : v.cells = #[v] ∧ v.oneCell' = true := by obtain ⟨a, cap, rfl, _⟩ := hv; exact ⟨rfl, rfl⟩
  refine alloc_i Ty.ints_zero fun bl w1 x1 hbl e1 s1 => ?_
  refine alloc_i Ty.errno_zero fun be w2 x2 hbe e2 s2 => ?_
  rw [build_i (Ty.reader_new v hcell.1)]
  refine alloc_i Ty.reader_zero fun br w3 x3 hbr e3 s3 => ?_
  refine store_x Ty.reader_size hbr (by simp [Value.cells]) (x := v) (by simp [Value.cells]) hcell.2 fun w4 m4 hbr4 s4 => ?_
  rw [Array.setIfInBounds] at hbr4
  have hbr4 : At1 w4 br v 100 := by simpa [At1, Value.cells] using hbr4
  have hbl4 : At1 w4 bl (.slice none 0 0) 45 := ((hbl.ext x2).ext x3).mod m4 (by omega)
  have hbe4 : At1 w4 be (.int .i64 0) 32 := (hbe.ext x3).mod m4 (by omega)
  have z1 := x1.size
  have z2 := x2.size
  have z3 := x3.size
  have m04 : Mod (w.heap.size ≤ ·) w w4 := ((((Mod.of_ext x1 : Mod (w.heap.size ≤ ·) w w1).trans (.of_ext x2)).trans (.of_ext x3)).trans (m4.mono fun k _ h => by omega))
  have hv4 := hv.ext m04.new
  have hoff : l ≠ [] → Off (· = br) v := fun hne k hk e => by
    have := hv.old (by simp [bv, hne]) hk
    omega
  have hbroken : ∀ (w5 : World) vl ve, Mod (w.heap.size ≤ ·) w w5 → At1 w5 bl vl 45 → At1 w5 be ve 32 → Cod.get l = none →
      LeavesE Try.prog Try.f47 (getVs bl be) R (getDs bl be) (.panicking [{ v := brokenV, recovered := false }]) w5 := fun w5 vl ve hm hl he hn =>
    get_breaks hl he (by omega) fun w' hm' => hR _ _ ⟨(hm.trans (hm'.mono fun k _ h => by omega)).new, by rw [hn]⟩
  have hform : ∀ (w5 : World) vl ve, Mod (w.heap.size ≤ ·) w w5 → At1 w5 bl vl 45 → At1 w5 be ve 32 → Cod.get l = none →
      DoU Try.prog (Instr.storeAt 45 (.pointer (some ⟨bl, 0, none⟩)) (.slice none 0 0)) w5 (fun _ w12 =>
        DoU Try.prog (Instr.storeAt 32 (.pointer (some ⟨be, 0, none⟩)) (.int .i64 7)) w12 (fun _ w13 => LeavesE Try.prog Try.f47 (getVs bl be) R (getDs bl be) .returning w13) (PanD Try.prog Try.f47 (getVs bl be) R (getDs bl be))) (PanD Try.prog Try.f47 (getVs bl be) R (getDs bl be)) := fun w5 vl ve hm hl he hn => by
    refine store_x Ty.ints_size hl (by simp) rfl rfl fun w6 m6 hl6 s6 => ?_
    refine store_x Ty.errno_size (he.mod m6 (by omega)) (by simp) rfl rfl fun w7 m7 he7 s7 => ?_
    exact get_leaves (hl6.mod m7 (by omega)) he7 (hR _ _ ⟨((hm.trans (m6.mono fun k _ h => by omega)).trans (m7.mono fun k _ h => by omega)).new, by rw [hn]; rfl⟩)
  have hnext := next_ret w4 hbr4 hv4 hoff
  refine callF_of hnext ?_ ?_ ?_
  rotate_left
  · intro ch w5 hq
    unfold NextQ at hq
    cases hn : Cod.next l with
    | none =>
      rw [hn] at hq
      obtain ⟨e, rfl⟩ := hq
      cases e
      exact hbroken _ _ _ m04 hbl4 hbe4 (by unfold Cod.get; rw [hn]; rfl)
    | some p => rw [hn] at hq; exact absurd hq.1 (by simp)
  · intro w5 hq
    unfold NextQ at hq
    cases hn : Cod.next l with
    | none => rw [hn] at hq; exact absurd hq.1 (by simp)
    | some p => rw [hn] at hq; exact absurd hq.1 (by simp)
  intro n0 w5 hq
  unfold NextQ at hq
  cases hn : Cod.next l with
  | none => rw [hn] at hq; exact absurd hq.1 (by simp)
  | some p =>
    obtain ⟨n, k0⟩ := p
    rw [hn] at hq
    obtain ⟨e, m5, s5, vr, hbr5, hvr5, hown⟩ := hq
    cases e
    have hget : Cod.get l = if n < 0 ∨ 4000 < n then none else (Cod.more n.toNat (l.drop k0)).bind fun q => if q.2 = [] then some q.1 else none := by unfold Cod.get; rw [hn]; rfl
    have hbl5 := At.mod hbl4 m5 (by omega : ¬ bl = br)
    have hbe5 := At.mod hbe4 m5 (by omega : ¬ be = br)
    have m05 : Mod (w.heap.size ≤ ·) w w5 := m04.trans (m5.mono fun k _ h => by omega)
    refine join0 (fun w' => w' = w5 ∧ ¬ (n < 0 ∨ 4000 < n)) ?_ fun K7 hK7 => ?_
    · rintro _ w6 ⟨hw, hnn⟩
      subst w6
      rw [if_neg hnn] at hget
      obtain ⟨iN, hiN, hiz, his, hib⟩ := Ty.info_parts Ty.int_info
      have hmap : Cod.more n.toNat (l.drop k0) = (Cod.more (n.toNat - 0) (l.drop k0)).map (fun q => ([] ++ q.1, q.2)) := by simp
      have hrest0 : l.drop k0 ≠ [] → l ≠ [] := fun h e => h (by rw [e]; simp)
      refine loop1 (fun x w1 => ∃ (k : Nat) (vl : Value) (ns : List Int) (vr : Value) (rest : List UInt8), x = .int .i64 k ∧ k ≤ n.toNat ∧ ns.length = k ∧ w1.ownsRow w.heap.size 3 1 vl k (iv ns) ∧ At1 w1 bl vl 45 ∧ At1 w1 be (.int .i64 0) 32 ∧
          At1 w1 br vr 100 ∧ Sl w1 1 vr rest.length (bv rest) ∧ (∀ g, vr.ownBlock = some g → v.ownBlock = some g) ∧ (rest ≠ [] → l ≠ []) ∧ Mod (w.heap.size ≤ ·) w w1 ∧ Cod.more n.toNat (l.drop k0) = (Cod.more (n.toNat - k) rest).map (fun q => (ns ++ q.1, q.2))) (fun x _ => n.toNat - (intOf x).toNat)
        ⟨0, _, [], vr, _, rfl, by omega, rfl, Own.nil _ _ _ _, hbl5, hbe5, hbr5, hvr5, hown, hrest0, m05, hmap⟩ ?_
      rintro h _ w6 h16 ⟨k, vl, ns, vr, rest, rfl, hkN, hns, hvl, hbl6, hbe6, hbr6, hvr6, hown6, hne6, m06, hmore⟩ K hK
      have z6 := m06.size
      rw [h16, bin_lss]
      by_cases hlt : k < n.toNat
      · rw [decide_eq_true (by omega), Br_bool, if_pos rfl]
        have hm1 : Cod.more (n.toNat - k) rest = (Cod.next rest).bind fun p => (Cod.more (n.toNat - (k + 1)) (rest.drop p.2)).map fun q => (p.1 :: q.1, q.2) := by
          rw [show n.toNat - k = (n.toNat - (k + 1)) + 1 by omega]; rfl
        rw [hm1] at hmore
        have hd : Ext w6 w6.drew := Ext.drew w6
        have hoff6 : rest ≠ [] → Off (· = br) vr := fun h g hg => hoff (hne6 h) g (hown6 g hg)
        refine ⟨fun a b => Ext a b, fun a b => Mod (· = br) a b, ⟨Ext.refl, fun _ _ _ => Ext.trans, fun _ _ h => .of_ext h, fun _ _ _ => Mod.trans⟩, ?_⟩
        generalize hw7 : w6.drew = w7 at hd
        have z7 := hd.size
        have hbl7 := At.ext hbl6 hd
        have hbe7 := At.ext hbe6 hd
        have hbr7 := At.ext hbr6 hd
        have hvr7 := hvr6.ext hd
        have hvl7 := Own.ext hvl hd
        have m07 : Mod (w.heap.size ≤ ·) w w7 := m06.trans (.of_ext hd)
        have hbrlt := hbr7.lt
        refine ⟨vl, fun _ => True, fun _ _ _ _ => trivial, fun w8 h8 => ?_, ?_⟩
        · refine load_i Ty.ints_agg (At.mod hbl7 h8 (by omega)) (u := vl) rfl ?_
          exact ⟨rfl, Ext.refl _, trivial⟩
        cases hnx : Cod.next rest with
        | none =>
          rw [hnx] at hmore
          refine ⟨.int .i64 0, fun _ => False, fun _ _ h _ => h, fun w8 h8 => ?_, ⟨fun _ _ => True, fun _ _ _ _ _ => trivial, fun w8 h8 => ?_, fun v w8 h8 hf => hf.1.2.elim⟩⟩
          · refine callF_of (next_ret w8 (At.ext hbr7 h8) (hvr7.ext h8) hoff6) ?_ ?_ ?_
            · intro r w9 hq; unfold NextQ at hq; rw [hnx] at hq; exact absurd hq.1 (by simp)
            · intro ch w9 hq
              unfold NextQ at hq; rw [hnx] at hq
              obtain ⟨e, rfl⟩ := hq
              cases e
              exact hbroken _ _ _ (m07.trans (.of_ext h8)) (At.ext hbl7 h8) (At.ext hbe7 h8) (by rw [hget, hmore]; rfl)
            · intro w9 hq; unfold NextQ at hq; rw [hnx] at hq; exact absurd hq.1 (by simp)
          · refine lit1_i Ty.ints hiN his hiz rfl rfl fun g w9 h9 _ _ _ => ⟨h9, trivial⟩
        | some p =>
          obtain ⟨m, j⟩ := p
          rw [hnx, Option.bind_some] at hmore
          simp only at hmore
          refine ⟨.int .i64 m, fun w9 => ∃ vr', At1 w9 br vr' 100 ∧ Sl w9 1 vr' (rest.drop j).length (bv (rest.drop j)) ∧ ∀ g, vr'.ownBlock = some g → vr.ownBlock = some g, fun a b ⟨vr', h1, h2, h3⟩ hab => ⟨vr', At.ext h1 hab, h2.ext hab, h3⟩, fun w8 h8 => ?_, ?_⟩
          · refine callF_of (next_ret w8 (At.ext hbr7 h8) (hvr7.ext h8) hoff6) ?_ ?_ ?_
            · intro r w9 hq; unfold NextQ at hq; rw [hnx] at hq
              obtain ⟨e, h1, h2, vr', h3, h4, h5⟩ := hq
              cases e
              exact ⟨rfl, h1, vr', h3, h4, h5⟩
            · intro ch w9 hq; unfold NextQ at hq; rw [hnx] at hq; exact absurd hq.1 (by simp)
            · intro w9 hq; unfold NextQ at hq; rw [hnx] at hq; exact absurd hq.1 (by simp)
          refine ⟨fun u w9 => ∃ g, u = .slice (some ⟨g, 0, none⟩) 1 1 ∧ w7.heap.size ≤ g ∧ At w9 g (.cells #[.int .i64 m] 3 (0, 0)), fun u a b ⟨g, h1, h2, h3⟩ hab => ⟨g, h1, h2, At.mod h3 hab (by omega)⟩, fun w8 h8 => ?_, ?_⟩
          · refine lit1_i Ty.ints hiN his hiz rfl rfl fun g w9 h9 hat hg _ => ?_
            have := h8.size
            exact ⟨h9, g, rfl, by omega, hat⟩
          rintro u w9 h9 ⟨⟨_, vr', hbr9, hvr9, hown9⟩, g, rfl, hgge, hg9⟩
          have z9 := h9.size
          have hbl9 := At.mod hbl7 h9 (by omega : ¬ bl = br)
          have hbe9 := At.mod hbe7 h9 (by omega : ¬ be = br)
          have hvl9 := Own.mod hvl7 h9 (Own.off_at hvl7 hbr7 (by decide))
          have m09 : Mod (w.heap.size ≤ ·) w w9 := m07.trans (h9.mono fun k _ h => by omega)
          refine app_own Ty.ints hiN hiz his hib rfl (by omega) hvl9 (Sl.of_lit hg9) (by simp [Value.oneCell']) (by omega) (by omega) (by omega) fun vl' w10 hvl10 m10 _ => ?_
          have hbl10 := At.mod hbl9 m10 (fun h => Own.off_at hvl9 hbl9 (by decide) _ h rfl)
          have hbe10 := At.mod hbe9 m10 (fun h => Own.off_at hvl9 hbe9 (by decide) _ h rfl)
          have hbr10 := At.mod hbr9 m10 (fun h => Own.off_at hvl9 hbr9 (by decide) _ h rfl)
          have hone : vl'.cells = #[vl'] ∧ vl'.oneCell' = true := by
            rcases hvl10.2 with ⟨rfl, _⟩ | ⟨_, _, _, rfl, _⟩ <;> exact ⟨rfl, rfl⟩
          have m010 : Mod (w.heap.size ≤ ·) w w10 := m09.trans (m10.mono fun k _ h => (Own.block hvl9 h).1)
          refine store_x Ty.ints_size hbl10 (by simp) hone.1 hone.2 fun w11 m11 hbl11 s11 => ?_
          rw [bin_add, i64_wrap (by omega) (by omega)]
          have hvr10 : Sl w10 1 vr' (rest.drop j).length (bv (rest.drop j)) := hvr9.mod_ne m10 fun hne gg hgg hgg2 => by
            have h1 := (Own.block hvl9 hgg2).1
            have h2 := hv.old (k := gg) (by
              have hr : rest ≠ [] := fun e => hne (by rw [e]; simp [bv])
              simpa [bv] using hne6 hr) (hown6 gg (hown9 gg hgg))
            omega
          have hvr11 : Sl w11 1 vr' (rest.drop j).length (bv (rest.drop j)) := hvr10.mod_ne m11 fun hne gg hgg hgg2 => by
            have h2 := hv.old (k := gg) (by
              have hr : rest ≠ [] := fun e => hne (by rw [e]; simp [bv])
              simpa [bv] using hne6 hr) (hown6 gg (hown9 gg hgg))
            omega
          refine hK _ _ ⟨k + 1, vl', ns ++ [m], vr', rest.drop j, by simp, by omega, by simp [hns], ?_, ?_, hbe10.mod m11 (by omega), hbr10.mod m11 (by omega), hvr11, fun gg hgg => hown6 gg (hown9 gg hgg), fun hne => hne6 fun e => hne (by rw [e]; simp), m010.trans (m11.mono fun k _ h => by omega), ?_⟩ (by simp [intOf]; omega)
          · have := Own.mod hvl10 m11 (Own.off_at hvl10 hbl10 (by decide))
            simpa [iv] using this
          · simpa [At1] using hbl11
          · rw [hmore, Option.map_map]
            congr 1
            funext q
            simp
      · have hkn : k = n.toNat := by omega
        subst hkn
        rw [Nat.sub_self] at hmore
        simp only [Cod.more, Option.map_some, List.append_nil] at hmore
        rw [hmore, Option.bind_some] at hget
        simp only at hget
        rw [decide_eq_false (by omega), Br_bool, if_neg (by decide), DoV_ok (Ty.reader_b w6 br)]
        refine load_i Ty.bytes_agg hbr6 (u := vr) rfl ?_
        rw [hvr6.len Ty.bytes, bin_gtr]
        by_cases hr : rest = []
        · rw [if_pos hr] at hget
          subst hr
          rw [decide_eq_false (by simp), Br_bool, if_neg (by decide)]
          refine load_i Ty.ints_agg hbl6 (u := vl) rfl ?_
          have hone : vl.cells = #[vl] ∧ vl.oneCell' = true := by
            rcases hvl.2 with ⟨rfl, _⟩ | ⟨_, _, _, rfl, _⟩ <;> exact ⟨rfl, rfl⟩
          refine store_x Ty.ints_size hbl6 (by simp) hone.1 hone.2 fun w7 m7 hbl7 s7 => ?_
          refine store_x Ty.errno_size (hbe6.mod m7 (by omega)) (by simp) rfl rfl fun w8 m8 hbe8 s8 => ?_
          have hvl7 := Own.mod hvl m7 (Own.off_at hvl hbl6 (by decide))
          have hvl8 := Own.mod hvl7 m8 (Own.off_at hvl7 (At.mod hbe6 m7 (by omega)) (by decide))
          refine get_leaves (vl := vl) (ve := okE) (by simpa [At1] using hbl7.mod m8 (by omega)) (by simpa [At1, okE] using hbe8) (hR _ _ ⟨((m06.trans (m7.mono fun k _ h => by omega)).trans (m8.mono fun k _ h => by omega)).new, ?_⟩)
          rw [hget]
          exact ⟨vl, rfl, by rw [hns]; exact hvl8⟩
        · rw [if_neg hr] at hget
          have := List.length_pos_iff.2 hr
          rw [decide_eq_true (by omega), Br_bool, if_pos rfl]
          exact hform _ _ _ m06 hbl6 hbe6 hget
    · refine join1 (fun x w' => x = .bool (decide (n < 0 ∨ 4000 < n)) ∧ w' = w5) ?_ fun K hK => ?_
      · rintro h11 _ w6 h14 ⟨rfl, rfl⟩
        rw [h14, Br_bool]
        by_cases hz : n < 0 ∨ 4000 < n
        · rw [decide_eq_true hz, if_pos rfl]
          rw [if_pos hz] at hget
          exact hform _ _ _ m05 hbl5 hbe5 hget
        · rw [decide_eq_false hz, if_neg (by decide)]
          exact hK7 _ ⟨rfl, hz⟩
      · rw [bin_lss]
        by_cases hz : n < 0
        · rw [decide_eq_true (by omega), Gd_bool, if_neg (by decide)]
          exact hK _ _ ⟨by simp [hz], rfl⟩
        · rw [decide_eq_false (by omega), Gd_bool, if_pos rfl, bin_gtr]
          refine hK _ _ ⟨?_, rfl⟩
          congr 1; simp only [decide_eq_decide]; omega
end Go.Proofs.Ytahplhcijlgelaa

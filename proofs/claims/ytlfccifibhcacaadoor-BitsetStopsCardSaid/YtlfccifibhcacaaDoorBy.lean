/- BitsetStops: the walk. -/
import Derived.Test.YtlfccifibhcacaaDoorBw
import Derived.Test.YtlfccifibhcacaaDoorBv
import Derived.Test.YtlfccifibhcacaaDoorKt
import Derived.Deep.DeepCutAuto
import Derived.ChangeKeysEq
namespace Go.Proofs.YtlfccifibhcacaaDoor
open Go.RowKit Go.Shelf
set_option linter.unusedVariables false
set_option linter.unusedSimpArgs false
attribute [local go_sem] Oper.semAt_some

theorem cmp_nil (p : Value) (w : World) : (binOp BinOp.eql 28 (.func (.func 8) #[] #[p]) .nilFunc).run Tryd.prog w = .ok (.bool false) w := by kernel_rfl
theorem setV_ids {S : Nat → Nat} (hS : W64 S) : setV (ofI ((ids S).map (fun x : Nat => (x : Int)))) = setV S := by
  simp only [setV, of_ids hS 0 (by decide), of_ids hS 1 (by decide), of_ids hS 2 (by decide), of_ids hS 3 (by decide)]

theorem wf_u64 (a : Nat) (h : a < 18446744073709551616) : (Lit.int .u64 (a : Int)).wf = true := by
  have e1 : IntKind.u64.min = 0 := rfl
  have e2 : IntKind.u64.max = 18446744073709551615 := rfl
  have : IntKind.u64.min ≤ (a : Int) ∧ (a : Int) ≤ IntKind.u64.max := by rw [e1, e2]; omega
  simpa [Lit.wf] using this
theorem key_u64 (a : Nat) (h : a < 18446744073709551616) : Tryd.prog.keyLits 3 22 [.int .u64 a] = some [.int .u64 a] := by
  simp [Program.keyLits, Tryd.underlying22, wf_u64 a h]
theorem eq_in (S : Nat → Nat) (hS : W64 S) (w : World) : (Op.equalIn 10000 26 (.agg #[.int .u64 (S 0), .int .u64 (S 1), .int .u64 (S 2), .int .u64 (S 3)]) (.agg #[.int .u64 (S 0), .int .u64 (S 1), .int .u64 (S 2), .int .u64 (S 3)])).run Tryd.prog w = .ok true w := by
  obtain ⟨i0, hi, _⟩ := info_parts (show (Tryd.prog.info? 22).map (fun i => (i.zero, i.size, i.bytes)) = some (some (.int .u64 0), 1, 8) by kernel_rfl)
  have hc : Tryd.prog.cellsOf 22 = 1 := by kernel_rfl
  have hm : (List.range 4).mapM (fun i => Tryd.prog.keyLits 3 22 (((#[Value.int .u64 (S 0), .int .u64 (S 1), .int .u64 (S 2), .int .u64 (S 3)] : Array Value).toList.drop (i * Tryd.prog.cellsOf 22)).take (Tryd.prog.cellsOf 22))) = some [[.int .u64 (S 0)], [.int .u64 (S 1)], [.int .u64 (S 2)], [.int .u64 (S 3)]] := by
    rw [hc, show List.range 4 = [0, 1, 2, 3] from rfl]
    simp [List.mapM_cons, key_u64 _ (hS 0), key_u64 _ (hS 1), key_u64 _ (hS 2), key_u64 _ (hS 3)]
  obtain ⟨r, hr, hiff⟩ := run_eqItems_plain (P := Tryd.prog) w 9998 (e := 22) (by kernel_rfl) _ _ _ _ _ hm hm
  have hrt := hiff.2 rfl
  subst hrt
  rw [show (10000 : Nat) = 9999 + 1 from rfl, run_equalIn_array w 9999 _ _ Tryd.underlying26 hi, hr]

theorem resB (tmps : Array Value) (w : World) (g : Nat) (h0 : tmps.getD 4 undef = .pointer (some ⟨g, 0, none⟩)) (h : w.heap[g]? = some (.cells #[.bool true] 4 (0, 0))) : (results Tryd.f3 tmps).run Tryd.prog w = .ok (.bool true) w := by
  have c0 : w.cell? ⟨g, 0, none⟩ = some (.bool true) := (blkcell h 0).trans rfl
  simp only [Array.getD_eq_getD_getElem?] at h0
  simp [results, Tryd.results3, go_sem, h0, c0]

/-- Between two rounds. -/
def IS (S : Nat → Nat) (t : Nat) (w6 : World) (bM bR : Nat) (pre : List Nat) (W : World) : Prop :=
  Keeps (fun k => k = bM ∨ k = bR) w6 W ∧ Boxed W bM 3 (.int .i64 (pre.length : Nat)) ∧ Boxed W bR 4 (.bool false) ∧ pre <+: ids S ∧ pre.length ≤ t
/-- Behind a round that leaves. -/
def IxS (S : Nat → Nat) (t : Nat) (w6 : World) (bM bR : Nat) (c : Code) (pre : List Nat) (W : World) : Prop :=
  (c = .ret ∧ ¬ pre <+: ids S) ∨ (c = .exit 0 ∧ Keeps (fun k => k = bM ∨ k = bR) w6 W ∧ Boxed W bM 3 (.int .i64 (pre.length : Nat)) ∧ Boxed W bR 4 (.bool false) ∧ pre.length = t + 1)
theorem is_own (S : Nat → Nat) (t : Nat) (w6 : World) (bM bR : Nat) : OwnFrom w6.heap.size (IS S t w6 bM bR) := by
  rintro s X Y row ⟨h1, h2, h3, h4, h5⟩ hg hr
  exact ⟨h1.grown hg (fun k e hlt => by have := (hr k e).1; omega), boxed_own (β := Unit) _ _ (fun _ => _) () X Y row h2 hg (fun r er => (hr r er).2), boxed_own (β := Unit) _ _ (fun _ => _) () X Y row h3 hg (fun r er => (hr r er).2), h4, h5⟩
theorem ixs_own (S : Nat → Nat) (t : Nat) (w6 : World) (bM bR : Nat) (c : Code) : OwnFrom w6.heap.size (IxS S t w6 bM bR c) := by
  rintro s X Y row (h | ⟨h0, h1, h2, h3, h5⟩) hg hr
  · exact .inl h
  · exact .inr ⟨h0, h1.grown hg (fun k e hlt => by have := (hr k e).1; omega), boxed_own (β := Unit) _ _ (fun _ => _) () X Y row h2 hg (fun r er => (hr r er).2), boxed_own (β := Unit) _ _ (fun _ => _) () X Y row h3 hg (fun r er => (hr r er).2), h5⟩
theorem boxed_far {W : World} {B B' t' : Nat} {u v' : Value} (h : Boxed W B' t' u) (hBB : B' ≠ B) : Boxed (W.setCell ⟨B, 0, none⟩ v') B' t' u := (Below.heap_setCell _ _ _ B' hBB).trans h
theorem pre_next {S : Nat → Nat} {pre : List Nat} {x : Nat} (h : pre <+: ids S) : pre ++ [x] <+: ids S ↔ (ids S)[pre.length]? = some x := by
  obtain ⟨tl, htl⟩ := h
  rw [← htl]
  constructor
  · rintro ⟨r, hr⟩
    have : tl = [x] ++ r := by
      rw [List.append_assoc] at hr
      exact (List.append_cancel_left hr).symm
    rw [this]; simp
  · intro h
    rw [List.getElem?_append_right (Nat.le_refl _), Nat.sub_self] at h
    cases tl with
    | nil => simp at h
    | cons y r =>
      simp at h
      subst h
      exact ⟨r, by simp⟩

set_option maxHeartbeats 4000000 in
set_option maxRecDepth 100000 in
theorem l_stops (hal : ∀ w, Tab w → 0 < w.heap.size → Calls Tryd.prog 7 #[] w fun e w' => e = .returned (.bool true) ∧ Keeps (fun _ => False) w w') (S : Nat → Nat) (hS : W64 S) (t : Nat) (ht : t < 256) (w : World) (hT : Tab w) (l0 : 0 < w.heap.size) :
    Calls Tryd.prog 3 #[setV S, .int .u8 t] w fun e w' => e = .returned (.bool true) ∧ Keeps (fun _ => False) w w' := by
  refine (callsIn_wide (n := 5)).1 ?_
  refine callsIn_of_wp_marks Tryd.func3 rfl trivial ?_ rfl
  simp only [Tryd.ntmps3, List.size_toArray, List.length_cons, List.length_nil, Nat.reduceAdd, Nat.reduceSub, Array.replicate_succ, Array.replicate_zero, List.push_toArray, List.append_toArray, List.nil_append, List.cons_append]
  refine wpIn_wide.2 ?_
  go_wp2_with fail
  have k3 : Keeps (fun _ => False) w (((w.alloc (.cells #[.int .u64 (S 0), .int .u64 (S 1), .int .u64 (S 2), .int .u64 (S 3)] 23)).alloc (.cells #[.int .u8 t] 5)).alloc (.cells #[.bool false] 4)) := (((Keeps.refl _ _).alloc _).alloc _).alloc _
  have bA := blkalloc (blkalloc (heap_alloc_new w (.cells #[.int .u64 (S 0), .int .u64 (S 1), .int .u64 (S 2), .int .u64 (S 3)] 23)) (.cells #[.int .u8 t] 5)) (.cells #[.bool false] 4)
  have bT : (((w.alloc (.cells #[.int .u64 (S 0), .int .u64 (S 1), .int .u64 (S 2), .int .u64 (S 3)] 23)).alloc (.cells #[.int .u8 t] 5)).alloc (.cells #[.bool false] 4)).heap[w.heap.size + 1]? = some (.cells #[.int .u8 t] 5 (0, 0)) := by
    have := blkalloc (heap_alloc_new (w.alloc (.cells #[.int .u64 (S 0), .int .u64 (S 1), .int .u64 (S 2), .int .u64 (S 3)] 23)) (.cells #[.int .u8 t] 5)) (.cells #[.bool false] 4)
    rwa [World.size_alloc] at this
  have bR : (((w.alloc (.cells #[.int .u64 (S 0), .int .u64 (S 1), .int .u64 (S 2), .int .u64 (S 3)] 23)).alloc (.cells #[.int .u8 t] 5)).alloc (.cells #[.bool false] 4)).heap[w.heap.size + 1 + 1]? = some (.cells #[.bool false] 4 (0, 0)) := by
    have := heap_alloc_new ((w.alloc (.cells #[.int .u64 (S 0), .int .u64 (S 1), .int .u64 (S 2), .int .u64 (S 3)] 23)).alloc (.cells #[.int .u8 t] 5)) (.cells #[.bool false] 4)
    rwa [World.size_alloc, World.size_alloc] at this
  have hT3 := hT.keeps k3
  have hs3 := blklt bR
  generalize (((w.alloc (.cells #[.int .u64 (S 0), .int .u64 (S 1), .int .u64 (S 2), .int .u64 (S 3)] 23)).alloc (.cells #[.int .u8 t] 5)).alloc (.cells #[.bool false] 4)) = w3 at *
  refine (p_list S hS w3 hT3 (by omega)).mono ?_
  rintro e w4 ⟨v, rfl, hv, k4⟩
  obtain ⟨A, cp, rfl⟩ := hv.slice_
  have HV := Lib.hid (hv.mono (ok' := fun k => w3.heap.size ≤ k ∧ k < w4.heap.size) (fun k h1 h2 => ⟨h1, h2⟩))
  have k04 := k3.trans' k4
  have dA := k4.blk bA (fun x => x)
  have dT := k4.blk bT (fun x => x)
  have dR := k4.blk bR (fun x => x)
  have hT4 := hT3.keeps k4
  have hs4 := k4.size
  clear bA bT bR k3 k4 hv hT3
  go_upto_region 2 with fail
  have k5 : Keeps (fun _ => False) w4 ((w4.alloc (.cells #[.slice A (ids S).length cp] 24)).alloc (.cells #[.int .i64 0] 3)) := ((Keeps.refl _ _).alloc _).alloc _
  have cL := blkalloc (heap_alloc_new w4 (.cells #[.slice A (ids S).length cp] 24)) (.cells #[.int .i64 0] 3)
  have cM : ((w4.alloc (.cells #[.slice A (ids S).length cp] 24)).alloc (.cells #[.int .i64 0] 3)).heap[w4.heap.size + 1]? = some (.cells #[.int .i64 0] 3 (0, 0)) := by
    have := heap_alloc_new (w4.alloc (.cells #[.slice A (ids S).length cp] 24)) (.cells #[.int .i64 0] 3)
    rwa [World.size_alloc] at this
  have cA := k5.blk dA (fun x => x)
  have cT := k5.blk dT (fun x => x)
  have cR := k5.blk dR (fun x => x)
  have hT5 := hT4.keeps k5
  have k05 := k04.trans' k5
  have HV5 := Lib.hid (HV.out.keeps k5 (fun _ _ _ x => x))
  have hs5 := blklt cM
  generalize ((w4.alloc (.cells #[.slice A (ids S).length cp] 24)).alloc (.cells #[.int .i64 0] 3)) = w5 at *
  clear dA dT dR HV k5 k04 hT4
  have a0 : w5.cell? ⟨w.heap.size, 0, none⟩ = some (.int .u64 (S 0)) := (blkcell cA 0).trans rfl
  have a1 : w5.cell? ⟨w.heap.size, 1, none⟩ = some (.int .u64 (S 1)) := (blkcell cA 1).trans rfl
  have a2 : w5.cell? ⟨w.heap.size, 2, none⟩ = some (.int .u64 (S 2)) := (blkcell cA 2).trans rfl
  have a3 : w5.cell? ⟨w.heap.size, 3, none⟩ = some (.int .u64 (S 3)) := (blkcell cA 3).trans rfl
  go_wp2_with fail
  refine (p_all S _).mono ?_
  rintro e w' ⟨rfl, rfl⟩
  clear a0 a1 a2 a3
  go_wp2_with fail
  have k6 : Keeps (fun _ => False) w5 (w5.alloc (.cells #[.int .u64 (S 0), .int .u64 (S 1), .int .u64 (S 2), .int .u64 (S 3)] 26)) := (Keeps.refl _ _).alloc _
  have eB := heap_alloc_new w5 (.cells #[.int .u64 (S 0), .int .u64 (S 1), .int .u64 (S 2), .int .u64 (S 3)] 26)
  have eL := k6.blk cL (fun x => x)
  have eM := k6.blk cM (fun x => x)
  have eA := k6.blk cA (fun x => x)
  have eT := k6.blk cT (fun x => x)
  have eR := k6.blk cR (fun x => x)
  have hT6 := hT5.keeps k6
  have k06 := k05.trans' k6
  have HV6 := Lib.hid (HV5.out.keeps k6 (fun _ _ _ x => x))
  have hs6 := blklt eB
  generalize (w5.alloc (.cells #[.int .u64 (S 0), .int .u64 (S 1), .int .u64 (S 2), .int .u64 (S 3)] 26)) = w6 at *
  clear cL cM cA cT cR HV5 k6 k05 hT5
  have hcmp := cmp_nil (.pointer (some ⟨w5.heap.size, 0, none⟩)) w6
  rw [hcmp]
  clear hcmp
  go_wp2_with fail
  refine (wpIn_wide (n := 5)).1 ?_
  refine wpIn_rangeFunc_ownG rfl (by omega) (gf := 8) (lb := #[.pointer (some ⟨w5.heap.size, 0, none⟩)]) rfl trivial (enters_of Tryd.func8 (by kernel_rfl) rfl)
    (all1_stops 4 (by omega) w5.heap.size S hS w6 (by omega) eB hT6) kpB_t (kpB_b (by omega) (by omega)) (Below.refl _ _) (fun _ => rfl)
    (IS S t w6 (w4.heap.size + 1) (w.heap.size + 1 + 1)) (IxS S t w6 (w4.heap.size + 1) (w.heap.size + 1 + 1)) (is_own _ _ _ _ _) (fun c => ixs_own _ _ _ _ _ c)
    ⟨Keeps.refl _ _, eM, eR, List.nil_prefix, by simp⟩
    (fun x => { tmps := #[setV S, .int .u8 t, .pointer (some ⟨w.heap.size, 0, none⟩), .pointer (some ⟨w.heap.size + 1, 0, none⟩), .pointer (some ⟨w.heap.size + 1 + 1, 0, none⟩), .pointer (some ⟨w4.heap.size, 0, none⟩), .pointer (some ⟨w4.heap.size + 1, 0, none⟩), .func (.func 8) #[] #[.pointer (some ⟨w5.heap.size, 0, none⟩)], .int .i64 x, .agg #[.int .u64 (S 0), .int .u64 (S 1), .int .u64 (S 2), .int .u64 (S 3)], .slice A (ids S).length cp, .agg #[.int .u64 (S 0), .int .u64 (S 1), .int .u64 (S 2), .int .u64 (S 3)], .func (.func 8) #[] #[.pointer (some ⟨w5.heap.size, 0, none⟩)], .func (.func 8) #[] #[.pointer (some ⟨w5.heap.size, 0, none⟩)], .bool false, .func (.func 8) #[] #[.pointer (some ⟨w5.heap.size, 0, none⟩)], .int .i64 x, undef, undef, undef, undef, undef, undef, undef, undef, undef, undef, undef, undef, undef, undef, undef, undef, undef, undef, undef, undef, undef, undef, undef, undef, undef, undef, undef, undef, undef, undef, undef, undef, undef, undef, undef], defers := [] }) ?assign ?body ?done ?stop
  case assign =>
    intro l x W K hK
    gi_wp2
    exact hK
  case body =>
    rintro l pre x W ⟨kW, hM, hR, hpre, hle⟩ hN
    have hM1 := hM.cell
    have hM2 := hM.frozen
    have hR1 := hR.cell
    have hR2 := hR.frozen
    have fL := kW.blk eL (by omega)
    have fT := kW.blk eT (by omega)
    have hL1 : W.cell? ⟨w4.heap.size, 0, none⟩ = some (.slice A (ids S).length cp) := (blkcell fL 0).trans rfl
    have hT1 : W.cell? ⟨w.heap.size + 1, 0, none⟩ = some (.int .u8 t) := (blkcell fT 0).trans rfl
    have hg1 : decide (((ids S).length : Int) ≤ (pre.length : Int)) = false := by simp; omega
    have hpn := pre_next (x := x) hpre
    obtain ⟨y, hy⟩ : ∃ y, (ids S)[pre.length]? = some y := ⟨_, List.getElem?_eq_getElem hN⟩
    rw [hy] at hpn
    have hyc : ∃ b o, A = some ⟨b, o, none⟩ ∧ W.cell? ⟨b, o + pre.length, none⟩ = some (.int .i64 (y : Nat)) := by
      obtain ⟨_, A', c', hv, _, hh⟩ := HV6.out
      injection hv with e1 e2 e3
      subst e1
      rcases hh with hh | ⟨b, o, hA', hok, hlt, hc⟩
      · omega
      · refine ⟨b, o, hA', ?_⟩
        have := hc pre.length (.int .i64 (y : Nat)) (by rw [intsN, List.getElem?_map, hy]; rfl)
        exact (kW.cell (p := ⟨b, o + pre.length, none⟩) hlt (by obtain ⟨h5, h6⟩ := hok; show ¬ (b = _ ∨ b = _); omega)).trans this
    obtain ⟨b, o, rfl, hc⟩ := hyc
    have hNI : (pre.length : Int) < ((ids S).length : Int) := by omega
    have HY := Lib.hid hy
    have HN := Lib.hid hN
    have HPN := Lib.hid hpn
    have HPRE := Lib.hid hpre
    clear hpn hy hpre
    by_cases hxy : x = y
    · have hb : ((y : Int) != (x : Int)) = false := by simp [hxy]
      have HXY := Lib.hid hxy
      clear hxy
      have kW' := kW.setCell (p := ⟨w4.heap.size + 1, 0, none⟩) (.inl (.inl rfl)) (.int .i64 ((pre.length : Int) + 1))
      have hM' : Boxed (W.setCell ⟨w4.heap.size + 1, 0, none⟩ (.int .i64 ((pre.length : Int) + 1))) (w4.heap.size + 1) 3 (.int .i64 ((pre ++ [x]).length : Nat)) := by
        have e : (((pre ++ [x]).length : Nat) : Int) = (pre.length : Int) + 1 := by simp
        rw [e]; exact hM.set _
      have hR' := boxed_far (B := w4.heap.size + 1) (v' := .int .i64 ((pre.length : Int) + 1)) hR (by omega)
      by_cases hle2 : (t : Int) < (pre.length : Int) + 1
      · gi_wp2
        exact ⟨(KeepsOthers.setCell _ _ _).from _, .inr ⟨rfl, kW', hM', hR', by simp; omega⟩⟩
      · gi_wp2
        refine ⟨(KeepsOthers.setCell _ _ _).from _, ?_, kW', hM', hR', HPN.out.2 (by rw [HXY.out]), by simp; omega⟩
        intro c hc
        exact Below.heap_setCell _ _ _ c (by rcases hc with rfl | rfl <;> simp <;> omega)
    · have hb : ((y : Int) != (x : Int)) = true := by simp; omega
      have HXY := Lib.hid hxy
      clear hxy
      gi_wp2
      refine ⟨(KeepsOthers.setCell _ _ _).from _, .inl ⟨rfl, ?_⟩⟩
      intro hp
      have := HPN.out.1 hp
      injection this with this
      exact HXY.out this.symm
  case done =>
    rintro D pre W hD rfl ⟨kW, hM, hR, hpre, hle⟩ hK
    have hmin : ((ids S).length : Int) ≤ (t : Int) + 1 := by omega
    gi_wp2
    have fL := kW.blk eL (by omega)
    have fT := kW.blk eT (by omega)
    have fA := kW.blk eA (by omega)
    have hTW : Tab W := hT6.same (kW.block 0 (by omega) (by omega))
    have hVW := HV6.out.keeps kW (fun k h1 h2 h3 => by omega)
    have k0W : Keeps (fun _ => False) w W := k06.trans kW (fun k h1 h2 => by omega)
    have hW0 : 0 < W.heap.size := by have := kW.size; omega
    have kL : ∀ X : KW W, X.w.cell? ⟨w4.heap.size, 0, none⟩ = some (.slice A (ids S).length cp) := fun X => (blkcell (X.keeps.blk fL (fun x => x)) 0).trans rfl
    have kT : ∀ X : KW W, X.w.cell? ⟨w.heap.size + 1, 0, none⟩ = some (.int .u8 t) := fun X => (blkcell (X.keeps.blk fT (fun x => x)) 0).trans rfl
    have kM : ∀ X : KW W, X.w.cell? ⟨w4.heap.size + 1, 0, none⟩ = some (.int .i64 ((ids S).length : Nat)) := fun X => (blkcell (X.keeps.blk hM (fun x => x)) 0).trans rfl
    have kA0 : ∀ X : KW W, X.w.cell? ⟨w.heap.size, 0, none⟩ = some (.int .u64 (S 0)) := fun X => (blkcell (X.keeps.blk fA (fun x => x)) 0).trans rfl
    have kA1 : ∀ X : KW W, X.w.cell? ⟨w.heap.size, 1, none⟩ = some (.int .u64 (S 1)) := fun X => (blkcell (X.keeps.blk fA (fun x => x)) 1).trans rfl
    have kA2 : ∀ X : KW W, X.w.cell? ⟨w.heap.size, 2, none⟩ = some (.int .u64 (S 2)) := fun X => (blkcell (X.keeps.blk fA (fun x => x)) 2).trans rfl
    have kA3 : ∀ X : KW W, X.w.cell? ⟨w.heap.size, 3, none⟩ = some (.int .u64 (S 3)) := fun X => (blkcell (X.keeps.blk fA (fun x => x)) 3).trans rfl
    have kOf : ∀ X : KW W, Calls Tryd.prog 6 #[.slice A (ids S).length cp] X.w fun e w' => e = .returned (.agg #[.int .u64 (S 0), .int .u64 (S 1), .int .u64 (S 2), .int .u64 (S 3)]) ∧ Keeps (fun _ => False) X.w w' := fun X => by
      have h1 := hVW.keeps X.keeps (fun _ _ _ x => x)
      have e1 : intsN (ids S) = ((ids S).map (fun x : Nat => (x : Int))).map (Value.int .i64) := by rw [intsN, List.map_map]; rfl
      have e2 : (ids S).length = ((ids S).map (fun x : Nat => (x : Int))).length := by simp
      rw [e1, e2] at h1
      have h2 := p_of _ _ _ X.w h1 (by have := ids_len S; simp; omega)
      rw [setV_ids hS, ← e2] at h2
      exact h2
    have kAl : ∀ X : KW W, Calls Tryd.prog 7 #[] X.w fun e w' => e = .returned (.bool true) ∧ Keeps (fun _ => False) X.w w' := fun X => hal X.w (hTW.keeps X.keeps) (by have := X.keeps.size; omega)
    have KOF := Lib.hid kOf
    have kEq : ∀ X : KW W, (Op.equalIn 10000 26 (.agg #[.int .u64 (S 0), .int .u64 (S 1), .int .u64 (S 2), .int .u64 (S 3)]) (.agg #[.int .u64 (S 0), .int .u64 (S 1), .int .u64 (S 2), .int .u64 (S 3)])).run Tryd.prog X.w = .ok true X.w := fun X => eq_in S hS X.w
    have KAL := Lib.hid kAl
    have hl256 := ids_len S
    clear kOf kAl hVW fA fL fT hTW
    go_wp2_with fail
    refine wp_qtailk (w0 := W) 17 (Keeps.refl _ _) (by kernel_rfl) (by kernel_rfl) ?_
    simp only [List.take_succ_cons, List.take_zero, List.drop_succ_cons, List.drop_zero]
    repeat (go_big_quiet_step (first | (go_at_call 6; exact calls_k (KOF.out _)) | (go_at_call 7; exact calls_k (KAL.out _))))
    refine wpQuiet_nil (fun X => ?_)
    have hRX := X.keeps.blk hR (fun x => x)
    have c0 : X.w.cell? ⟨w.heap.size + 1 + 1, 0, none⟩ = some (.bool false) := (blkcell hRX 0).trans rfl
    have f0 := blkfrozen hRX 0
    go_wp2_with fail
    have hKX := X.keeps.blk hK (fun x => x)
    have hK' := (KeepsOthers.setCell X.w ⟨w.heap.size + 1 + 1, 0, none⟩ (.bool true)).same D _ hKX rfl
    have hRF := blkset hRX 0 (.bool true)
    have hRP : ((X.w.setCell ⟨w.heap.size + 1 + 1, 0, none⟩ (.bool true)).putObj D (.deferred none)).heap[w.heap.size + 1 + 1]? = some (.cells #[.bool true] 4 (0, 0)) := (World.putObj_heap_other (fun e => by omega)).trans hRF
    have kX : Keeps (fun _ => False) w (X.w.setCell ⟨w.heap.size + 1 + 1, 0, none⟩ (.bool true)) := (k0W.trans' X.keeps).setCell (.inr (by show w.heap.size ≤ w.heap.size + 1 + 1; omega)) _
    refine ⟨by simp, .inl ⟨_, _, rfl, run_takeDeferred hK', ?_⟩⟩
    refine ⟨.bool true, resB _ _ _ rfl hRP, rfl, ?_⟩
    exact Keeps.below ((kX.toBelow (fun _ h => h.elim) (Nat.le_refl _)).trans (belowK_b (w := w) (Nat.le_refl _) _ D _ _ (by omega) hK' rfl rfl)) _
  case stop =>
    rintro D c pre W hD hpre hIx hK
    rcases hIx with ⟨rfl, hno⟩ | ⟨rfl, kW, hM, hR, hlen⟩
    · exact (hno hpre).elim
    · have hpl : pre.length ≤ (ids S).length := hpre.length_le
      have hmin : (t : Int) + 1 ≤ ((ids S).length : Int) := by omega
      have hif : (if (t : Int) + 1 < ((ids S).length : Int) then (t : Int) + 1 else ((ids S).length : Int)) = (t : Int) + 1 := by split <;> omega
      have hme : ((pre.length : Nat) : Int) = (t : Int) + 1 := by omega
      rw [hme] at hM
      clear hme hpl
      gi_wp2
      have fL := kW.blk eL (by omega)
      have fT := kW.blk eT (by omega)
      have fA := kW.blk eA (by omega)
      have hTW : Tab W := hT6.same (kW.block 0 (by omega) (by omega))
      have hVW := HV6.out.keeps kW (fun k h1 h2 h3 => by omega)
      have k0W : Keeps (fun _ => False) w W := k06.trans kW (fun k h1 h2 => by omega)
      have hW0 : 0 < W.heap.size := by have := kW.size; omega
      have kL : ∀ X : KW W, X.w.cell? ⟨w4.heap.size, 0, none⟩ = some (.slice A (ids S).length cp) := fun X => (blkcell (X.keeps.blk fL (fun x => x)) 0).trans rfl
      have kT : ∀ X : KW W, X.w.cell? ⟨w.heap.size + 1, 0, none⟩ = some (.int .u8 t) := fun X => (blkcell (X.keeps.blk fT (fun x => x)) 0).trans rfl
      have kM : ∀ X : KW W, X.w.cell? ⟨w4.heap.size + 1, 0, none⟩ = some (.int .i64 ((t : Int) + 1)) := fun X => (blkcell (X.keeps.blk hM (fun x => x)) 0).trans rfl
      have kA0 : ∀ X : KW W, X.w.cell? ⟨w.heap.size, 0, none⟩ = some (.int .u64 (S 0)) := fun X => (blkcell (X.keeps.blk fA (fun x => x)) 0).trans rfl
      have kA1 : ∀ X : KW W, X.w.cell? ⟨w.heap.size, 1, none⟩ = some (.int .u64 (S 1)) := fun X => (blkcell (X.keeps.blk fA (fun x => x)) 1).trans rfl
      have kA2 : ∀ X : KW W, X.w.cell? ⟨w.heap.size, 2, none⟩ = some (.int .u64 (S 2)) := fun X => (blkcell (X.keeps.blk fA (fun x => x)) 2).trans rfl
      have kA3 : ∀ X : KW W, X.w.cell? ⟨w.heap.size, 3, none⟩ = some (.int .u64 (S 3)) := fun X => (blkcell (X.keeps.blk fA (fun x => x)) 3).trans rfl
      have kOf : ∀ X : KW W, Calls Tryd.prog 6 #[.slice A (ids S).length cp] X.w fun e w' => e = .returned (.agg #[.int .u64 (S 0), .int .u64 (S 1), .int .u64 (S 2), .int .u64 (S 3)]) ∧ Keeps (fun _ => False) X.w w' := fun X => by
        have h1 := hVW.keeps X.keeps (fun _ _ _ x => x)
        have e1 : intsN (ids S) = ((ids S).map (fun x : Nat => (x : Int))).map (Value.int .i64) := by rw [intsN, List.map_map]; rfl
        have e2 : (ids S).length = ((ids S).map (fun x : Nat => (x : Int))).length := by simp
        rw [e1, e2] at h1
        have h2 := p_of _ _ _ X.w h1 (by have := ids_len S; simp; omega)
        rw [setV_ids hS, ← e2] at h2
        exact h2
      have kAl : ∀ X : KW W, Calls Tryd.prog 7 #[] X.w fun e w' => e = .returned (.bool true) ∧ Keeps (fun _ => False) X.w w' := fun X => hal X.w (hTW.keeps X.keeps) (by have := X.keeps.size; omega)
      have KOF := Lib.hid kOf
      have kEq : ∀ X : KW W, (Op.equalIn 10000 26 (.agg #[.int .u64 (S 0), .int .u64 (S 1), .int .u64 (S 2), .int .u64 (S 3)]) (.agg #[.int .u64 (S 0), .int .u64 (S 1), .int .u64 (S 2), .int .u64 (S 3)])).run Tryd.prog X.w = .ok true X.w := fun X => eq_in S hS X.w
      have KAL := Lib.hid kAl
      have hl256 := ids_len S
      clear kOf kAl hVW fA fL fT hTW
      go_wp2_with fail
      refine wp_qtailk (w0 := W) 17 (Keeps.refl _ _) (by kernel_rfl) (by kernel_rfl) ?_
      simp only [List.take_succ_cons, List.take_zero, List.drop_succ_cons, List.drop_zero]
      repeat (go_big_quiet_step (first | (go_at_call 6; exact calls_k (KOF.out _)) | (go_at_call 7; exact calls_k (KAL.out _))))
      refine wpQuiet_nil (fun X => ?_)
      have hRX := X.keeps.blk hR (fun x => x)
      have c0 : X.w.cell? ⟨w.heap.size + 1 + 1, 0, none⟩ = some (.bool false) := (blkcell hRX 0).trans rfl
      have f0 := blkfrozen hRX 0
      go_wp2_with fail
      have hKX := X.keeps.blk hK (fun x => x)
      have hK' := (KeepsOthers.setCell X.w ⟨w.heap.size + 1 + 1, 0, none⟩ (.bool true)).same D _ hKX rfl
      have hRF := blkset hRX 0 (.bool true)
      have hRP : ((X.w.setCell ⟨w.heap.size + 1 + 1, 0, none⟩ (.bool true)).putObj D (.deferred none)).heap[w.heap.size + 1 + 1]? = some (.cells #[.bool true] 4 (0, 0)) := (World.putObj_heap_other (fun e => by omega)).trans hRF
      have kX : Keeps (fun _ => False) w (X.w.setCell ⟨w.heap.size + 1 + 1, 0, none⟩ (.bool true)) := (k0W.trans' X.keeps).setCell (.inr (by show w.heap.size ≤ w.heap.size + 1 + 1; omega)) _
      refine ⟨by simp, .inl ⟨_, _, rfl, run_takeDeferred hK', ?_⟩⟩
      refine ⟨.bool true, resB _ _ _ rfl hRP, rfl, ?_⟩
      exact Keeps.below ((kX.toBelow (fun _ h => h.elim) (Nat.le_refl _)).trans (belowK_b (w := w) (Nat.le_refl _) _ D _ _ (by omega) hK' rfl rfl)) _
end Go.Proofs.YtlfccifibhcacaaDoor

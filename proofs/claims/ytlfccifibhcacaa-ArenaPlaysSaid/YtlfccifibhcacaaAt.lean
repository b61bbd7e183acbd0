/- The document's table (becket/becketref02): Set and Drop, by their contracts over slots. -/
import Derived.Test.YtlfccifibhcacaaAs
namespace Go.Proofs.Ytlfccifibhcacaa
open Go.RowKit
set_option linter.unusedVariables false
set_option linter.unusedSimpArgs false

theorem Try.info101 : (Try.prog.info? 101).map (fun i => (i.zero, i.size, i.bytes)) = some (some (.agg #[.int .i64 0, .int .i64 0]), 2, 16) := by kernel_rfl

theorem flatT_set (ts : List (Int × Int)) : ∀ (c : Nat) (t : Int × Int), c < ts.length → (flatT (ts.set c t)) = ((flatT ts).set (c * 2) (.int .i64 t.1)).set (c * 2 + 1) (.int .i64 t.2) := by
  induction ts with
  | nil => intro c t h; simp at h
  | cons a ts ih =>
    intro c t h
    have e : ∀ (x : Int × Int) l, flatT (x :: l) = .int .i64 x.1 :: .int .i64 x.2 :: flatT l := fun _ _ => rfl
    cases c with
    | zero => simp [e]
    | succ c =>
      have := ih c t (by simpa using h)
      rw [List.set_cons_succ, e, e, this, show (c + 1) * 2 = c * 2 + 1 + 1 by omega, show c * 2 + 1 + 1 + 1 = (c * 2 + 1) + 1 + 1 by omega]
      simp

theorem gens_set {sl : List ASlot} {i : Nat} (hi : i < sl.length) (u : Bool) (x : Int) : gens (sl.set i ⟨(sAt sl i).gen, u, x⟩) = gens sl := by
  refine List.ext_getElem? (fun j => ?_)
  simp only [gens, List.map_set, List.getElem?_set]
  split
  · rename_i e
    subst e
    simp [hi, ← sAt_get hi]
  · rfl

theorem own_at {w : World} {B e size n c : Nat} {A : Option Addr} {xs : List Value} (h : w.ownsRow B e size (.slice A n c) n xs) (hn : 0 < n) : ∃ g, A = some ⟨g, 0, none⟩ ∧ B ≤ g ∧ n ≤ c ∧ (∃ cs, w.heap[g]? = some (.cells cs e (0, 0))) ∧ ∀ j u, xs[j]? = some u → w.cell? ⟨g, j, none⟩ = some u := by
  have hcells := fun g hg => h.cells (g := g) hg
  obtain ⟨hl, hh⟩ := h
  rcases hh with ⟨hv, h0⟩ | ⟨g', cap, cur, hv, hB, hheap, hn', hm, hsz, htake⟩
  · omega
  · injection hv with hv1 hv2 hv3
    subst hv1
    refine ⟨g', rfl, hB, by omega, ⟨_, hheap⟩, fun j u hu => ?_⟩
    have := hcells g' rfl j u hu
    rwa [add_plain'] at this

theorem rt_set_things {w : World} {g c : Nat} {t : Int × Int} {x : Int} {ts : List (Int × Int)} {p : Nat} (hc : c < ts.length) (hp : ts.length ≤ p) (ht : ts.getD c (0, 0) = t) (hg : g < w.heap.size)
    (hcells : ∀ j u, (flatT ts)[j]? = some u → w.cell? ⟨g, j, none⟩ = some u) (hk : ∀ u, (w.setCell ⟨g, c * 2 + 1, none⟩ u).heap.size = w.heap.size) :
    Rds (fun b => b = g) (w.setCell ⟨g, c * 2 + 1, none⟩ (.int .i64 x)) (.slice (some ⟨g, 0, none⟩) ts.length p) 2 (ts.set c (t.1, x)).length (flatT (ts.set c (t.1, x))) := by
  have hlen : (ts.set c (t.1, x)).length = ts.length := by simp
  rw [hlen]
  refine ⟨by rw [flatT_len, hlen], _, p, rfl, hp, .inr ⟨g, 0, rfl, rfl, by rw [hk]; exact hg, fun j u hu => ?_⟩⟩
  rw [Nat.zero_add]
  rw [flatT_set ts c _ hc, List.getElem?_set] at hu
  obtain ⟨h1, h2⟩ := flatT_at ts c hc
  rw [ht] at h1
  by_cases e1 : c * 2 + 1 = j
  · subst e1
    rw [if_pos rfl] at hu
    split at hu
    · injection hu with hu; subst hu
      exact World.cell?_setCell_same' _ _ _ (by rw [hcells _ _ h2]; rfl)
    · cases hu
  · rw [if_neg e1, List.getElem?_set] at hu
    refine acs_ne (hcells j u ?_) (aad_ne (.inr e1))
    by_cases e2 : c * 2 = j
    · subst e2
      rw [if_pos rfl] at hu
      split at hu
      · rw [h1]; exact hu
      · cases hu
    · rwa [if_neg e2] at hu

set_option maxHeartbeats 1600000 in
set_option maxRecDepth 100000 in
theorem rt_set (last h x : Int) (v : Value) (sl : List ASlot) (ok : Nat → Prop) (w : World) (hr : RT ok w v last sl) (hF : FineA last sl) :
    Calls Try.prog 25 #[v, .int .i64 h, .int .i64 x] w fun e w' => ∃ v', e = .returned (.tuple #[v', .int .i64 (atE sl h)]) ∧ RT (fun b => ok b ∨ w.heap.size ≤ b) w' v' last (setS sl h x) ∧ Keeps (fun _ => False) w w' := by
  obtain ⟨Ag, cg, At, ct, rfl, hg, ht⟩ := hr.form
  have n1 := hF.n1
  have hml := things_len sl
  have hblk := blkalloc (heap_alloc_new w (.cells #[.int .i64 last, .slice Ag sl.length cg, .slice At (things sl).length ct] 54)) (.cells #[.int .i64 0, .slice none 0 0, .slice none 0 0] 54)
  have hblk2 := heap_alloc_new (w.alloc (.cells #[.int .i64 last, .slice Ag sl.length cg, .slice At (things sl).length ct] 54)) (.cells #[.int .i64 0, .slice none 0 0, .slice none 0 0] 54)
  rw [World.size_alloc] at hblk2
  have k0 : Keeps (fun _ => False) w ((w.alloc (.cells #[.int .i64 last, .slice Ag sl.length cg, .slice At (things sl).length ct] 54)).alloc (.cells #[.int .i64 0, .slice none 0 0, .slice none 0 0] 54)) := ((Keeps.refl _ _).alloc _).alloc _
  generalize hw0 : (w.alloc (.cells #[.int .i64 last, .slice Ag sl.length cg, .slice At (things sl).length ct] 54)).alloc (.cells #[.int .i64 0, .slice none 0 0, .slice none 0 0] 54) = w0 at *
  have c0 : w0.cell? ⟨w.heap.size, 0, none⟩ = some _ := (blkcell hblk 0).trans rfl
  have c1 : w0.cell? ⟨w.heap.size, 1, none⟩ = some _ := (blkcell hblk 1).trans rfl
  have c2 : w0.cell? ⟨w.heap.size, 2, none⟩ = some _ := (blkcell hblk 2).trans rfl
  by_cases he : atE sl h = 0
  · obtain ⟨cn, hcn, hcl, hct, i, hi, hil, hu, hcc⟩ := rAtI_yes he
    have hs : setS sl h x = sl.set i ⟨(sAt sl i).gen, true, x⟩ := by rw [setS, if_pos he, hi, Int.toNat_natCast]
    have hth := things_setX hil hu (sAt sl i).gen x
    rw [← hcc] at hth
    have hgn := gens_set hil true x
    rw [hi] at hct
    have HC := Lib.hid hcn
    have HE := Lib.hid he
    have HS := Lib.hid hs
    have HTH := Lib.hid hth
    have HGN := Lib.hid hgn
    have HCT := Lib.hid hct
    rw [he]
    have HT := Lib.hid ht
    clear hcn he hs hth hgn hct ht hu hi hcc
    have hcl' : (cn : Int) < (things sl).length := by omega
    go_enter Try.func25, Try.ntmps25
    go_wp2_with fail
    refine (rt_at last h _ sl ok _ (hr.still k0) hF).mono ?_
    rintro e w1 ⟨rfl, k1⟩
    rw [HE.out, HC.out]
    have hb1 := k1.blk hblk (fun x => x)
    have hb2 := k1.blk hblk2 (fun x => x)
    have z1 := blklt hb2
    have d2 : w1.cell? ⟨w.heap.size, 2, none⟩ = some _ := (blkcell hb1 2).trans rfl
    clear hw0
    go_wp2_with (at_builtin; refine wpList_append_rds _ rfl _ _ 52 rfl (w.heap.size + 2) 101 (.agg #[.int .i64 0, .int .i64 0]) 2 16 Try.underlying52 Try.info101 rfl (by decide) (.slice none 0 0) 0 [] rfl (World.ownsRow_nil _ _ _ _) _ _ _ _ rfl (HT.out.keeps (k0.trans' k1) (fun _ _ _ h => h)) ?c1 ?c2 ?c3 ?c4 ?_)
    case c1 => exact flatT_one _
    case c2 => unfold maxLen; omega
    case c3 => omega
    case c4 => omega
    intro A1 p1 w2 hown2 hgrow2 hat2
    have hk2 : Keeps (fun _ => False) w w2 := (k0.trans' k1).grown hgrow2 (fun k hk => by simp [Value.ownBlock] at hk)
    try rw [Nat.zero_add] at hown2
    try rw [List.nil_append] at hown2
    obtain ⟨g2, rfl, hg2, hp1, ⟨cs2, hbl2⟩, hcell2⟩ := own_at hown2 (by omega)
    have hd1 := grown_blk hgrow2 hb1 (by simp [Value.ownBlock])
    have hd2 := grown_blk hgrow2 hb2 (by simp [Value.ownBlock])
    have d0' : w2.cell? ⟨w.heap.size, 0, none⟩ = some _ := (blkcell hd1 0).trans rfl
    have d1' : w2.cell? ⟨w.heap.size, 1, none⟩ = some _ := (blkcell hd1 1).trans rfl
    have d2' : w2.cell? ⟨w.heap.size, 2, none⟩ = some _ := (blkcell hd1 2).trans rfl
    have e0' : w2.cell? ⟨w.heap.size + 1, 0, none⟩ = some _ := (blkcell hd2 0).trans rfl
    have e1' : w2.cell? ⟨w.heap.size + 1, 1, none⟩ = some _ := (blkcell hd2 1).trans rfl
    have e2' : w2.cell? ⟨w.heap.size + 1, 2, none⟩ = some _ := (blkcell hd2 2).trans rfl
    have f2' := blkfrozen hd1 2
    have f0 := blkfrozen hd2 0
    have f1 := blkfrozen hd2 1
    have f2 := blkfrozen hd2 2
    have fg := blkfrozen hbl2 (cn * 2 + 1)
    have hcx := hcell2 _ _ (flatT_at (things sl) cn hcl).2
    have hg0 : g2 ≠ w.heap.size := by omega
    have hg1 : g2 ≠ w.heap.size + 1 := by omega
    have hg0' : w.heap.size ≠ g2 := by omega
    have hg1' : w.heap.size + 1 ≠ g2 := by omega
    go_wp2_with fail
    have ka : Keeps (fun _ => False) w ((w2.setCell ⟨w.heap.size, 2, none⟩ (.slice (some ⟨g2, 0, none⟩) (things sl).length p1)).setCell ⟨g2, cn * 2 + 1, none⟩ (.int .i64 x)) :=
      (hk2.setCell (.inr (Nat.le_refl _)) _).setCell (.inr (show w.heap.size ≤ g2 by omega)) _
    have kb : Keeps (fun k => k = w.heap.size + 1) ((w2.setCell ⟨w.heap.size, 2, none⟩ (.slice (some ⟨g2, 0, none⟩) (things sl).length p1)).setCell ⟨g2, cn * 2 + 1, none⟩ (.int .i64 x)) (((((w2.setCell ⟨w.heap.size, 2, none⟩ (.slice (some ⟨g2, 0, none⟩) (things sl).length p1)).setCell ⟨g2, cn * 2 + 1, none⟩ (.int .i64 x)).setCell ⟨w.heap.size + 1, 0, none⟩ (.int .i64 last)).setCell ⟨w.heap.size + 1, 1, none⟩ (.slice Ag sl.length cg)).setCell ⟨w.heap.size + 1, 2, none⟩ (.slice (some ⟨g2, 0, none⟩) (things sl).length p1)) :=
      (((Keeps.refl (fun k => k = w.heap.size + 1) _).setCell (.inl rfl) _).setCell (.inl rfl) _).setCell (.inl rfl) _
    have kk := ka.trans kb (fun k hk e => by omega)
    have hT := rt_set_things (w := w2.setCell ⟨w.heap.size, 2, none⟩ (.slice (some ⟨g2, 0, none⟩) (things sl).length p1)) (x := x) hcl hp1 HCT.out (by have := blklt hbl2; simpa [World.setCell] using this) (fun j u hu => acs_ne (hcell2 j u hu) (aad_ne (.inl (by omega)))) (fun u => by simp [World.setCell])
    rw [← HTH.out] at hT
    refine bodyPost_ret (v := .tuple #[.agg #[.int .i64 last, .slice Ag sl.length cg, .slice (some ⟨g2, 0, none⟩) (things sl).length p1], .int .i64 0]) (by simp [results, Try.results25, go_sem, e0', e1', e2', hg0, hg1, hg0', hg1']) rfl ⟨_, rfl, ⟨_, _, rfl, ?_, ?_⟩, kk⟩
    · rw [HS.out, HGN.out, List.length_set]
      exact (hg.keeps kk (fun _ _ _ x => x)).mono (fun _ h _ => .inl h)
    · rw [HS.out]
      have hl : (things (sl.set i ⟨(sAt sl i).gen, true, x⟩)).length = (things sl).length := by rw [HTH.out]; simp
      have h5 := (hT.keeps kb (fun b hb _ => by omega)).mono (ok' := fun b => ok b ∨ w.heap.size ≤ b) (fun b hb _ => .inr (by omega))
      rw [hl] at h5 ⊢
      exact h5
  · have hne : (atE sl h == 0) = false := by simpa using he
    rw [setS, if_neg he]
    go_enter Try.func25, Try.ntmps25
    go_wp2_with fail
    refine (rt_at last h _ sl ok _ (hr.still k0) hF).mono ?_
    rintro e w1 ⟨rfl, k1⟩
    have hb1 := k1.blk hblk (fun x => x)
    have hb2 := k1.blk hblk2 (fun x => x)
    have d0 : w1.cell? ⟨w.heap.size, 0, none⟩ = some _ := (blkcell hb1 0).trans rfl
    have d1 : w1.cell? ⟨w.heap.size, 1, none⟩ = some _ := (blkcell hb1 1).trans rfl
    have d2 : w1.cell? ⟨w.heap.size, 2, none⟩ = some _ := (blkcell hb1 2).trans rfl
    have e0 : w1.cell? ⟨w.heap.size + 1, 0, none⟩ = some _ := (blkcell hb2 0).trans rfl
    have e1 : w1.cell? ⟨w.heap.size + 1, 1, none⟩ = some _ := (blkcell hb2 1).trans rfl
    have e2 : w1.cell? ⟨w.heap.size + 1, 2, none⟩ = some _ := (blkcell hb2 2).trans rfl
    have f0 := blkfrozen hb2 0
    have f1 := blkfrozen hb2 1
    have f2 := blkfrozen hb2 2
    go_wp2_with fail
    have kk : Keeps (fun _ => False) w (((w1.setCell ⟨w.heap.size + 1, 0, none⟩ (.int .i64 last)).setCell ⟨w.heap.size + 1, 1, none⟩ (.slice Ag sl.length cg)).setCell ⟨w.heap.size + 1, 2, none⟩ (.slice At (things sl).length ct)) :=
      (((k0.trans' k1).setCell (.inr (Nat.le_succ _)) _).setCell (.inr (Nat.le_succ _)) _).setCell (.inr (Nat.le_succ _)) _
    refine bodyPost_ret (v := .tuple #[.agg #[.int .i64 last, .slice Ag sl.length cg, .slice At (things sl).length ct], .int .i64 (atE sl h)]) (by simp [results, Try.results25, go_sem, e0, e1, e2]) rfl ⟨_, rfl, ?_, kk⟩
    exact (hr.still kk).mono (fun _ h _ => .inl h)

theorem flatT_take (ts : List (Int × Int)) (k : Nat) : flatT (ts.take k) = (flatT ts).take (k * 2) := by
  induction ts generalizing k with
  | nil => simp [flatT]
  | cons t ts ih =>
    cases k with
    | zero => simp [flatT]
    | succ k =>
      have e : ∀ (x : Int × Int) l, flatT (x :: l) = .int .i64 x.1 :: .int .i64 x.2 :: flatT l := fun _ _ => rfl
      rw [List.take_succ_cons, e, e, ih, show (k + 1) * 2 = k * 2 + 1 + 1 by omega]; rfl
theorem flatT_drop (ts : List (Int × Int)) (k : Nat) : flatT (ts.drop k) = (flatT ts).drop (k * 2) := by
  induction ts generalizing k with
  | nil => simp [flatT]
  | cons t ts ih =>
    cases k with
    | zero => simp
    | succ k =>
      have e : ∀ (x : Int × Int) l, flatT (x :: l) = .int .i64 x.1 :: .int .i64 x.2 :: flatT l := fun _ _ => rfl
      rw [List.drop_succ_cons, e, ih, show (k + 1) * 2 = k * 2 + 1 + 1 by omega]; rfl

theorem Rds.zero' {ok : Nat → Prop} {w : World} {A : Option Addr} {m c size : Nat} {cs : List Value} (hm : m = 0) (hcs : cs = []) : Rds ok w (.slice A m c) size m cs := by
  subst hm; subst hcs; exact Rds.nil_ _ _ _ _ _
theorem flatT_drop_nil {ts : List (Int × Int)} {k : Nat} (h : ts.length ≤ k) : flatT (ts.drop k) = [] := by rw [List.drop_eq_nil_of_le h]; rfl

theorem Rds.takeT {ok : Nat → Prop} {w : World} {A : Option Addr} {n c : Nat} {ts : List (Int × Int)} (h : Rds ok w (.slice A n c) 2 n (flatT ts)) (k : Nat) (hk : k ≤ n) : Rds ok w (.slice A k c) 2 k (flatT (ts.take k)) := by
  have hlen := h.at_T.1
  obtain ⟨hl, A', c', hv, hc, hA⟩ := h
  injection hv with h1 h2 h3
  subst h1; subst h3
  refine ⟨by rw [flatT_len, List.length_take, hlen, Nat.min_eq_left hk], A, c, rfl, by omega, ?_⟩
  by_cases h0 : k = 0
  · exact .inl h0
  · obtain ⟨b, o, hA, hb, hlt, h⟩ := hA.resolve_left (by omega)
    refine .inr ⟨b, o, hA, hb, hlt, fun j u hu => h j u ?_⟩
    rw [flatT_take] at hu
    rw [List.getElem?_take] at hu
    split at hu
    · exact hu
    · cases hu
theorem Rds.dropT {ok : Nat → Prop} {w : World} {b o n c : Nat} {ts : List (Int × Int)} (h : Rds ok w (.slice (some ⟨b, o, none⟩) n c) 2 n (flatT ts)) (k : Nat) (hk : k ≤ n) (m c' : Nat) (hm : m = n - k) (hc' : m ≤ c') : Rds ok w (.slice (some ⟨b, o + k * 2, none⟩) m c') 2 m (flatT (ts.drop k)) := by
  subst hm
  have hlen := h.at_T.1
  obtain ⟨hl, A', c0, hv, hc, hA⟩ := h
  injection hv with h1 h2 h3
  subst h1; subst h3
  refine ⟨by rw [flatT_len, List.length_drop, hlen], _, c', rfl, hc', ?_⟩
  by_cases h0 : n - k = 0
  · exact .inl h0
  · obtain ⟨b', o', hA, hb, hlt, h⟩ := hA.resolve_left (by omega)
    injection hA with hA
    injection hA with e1 e2
    subst e1 e2
    refine .inr ⟨b, o + k * 2, rfl, hb, hlt, fun j u hu => ?_⟩
    rw [flatT_drop, List.getElem?_drop] at hu
    rw [Nat.add_assoc]
    exact h _ u hu

set_option maxHeartbeats 1600000 in
set_option maxRecDepth 100000 in
theorem rt_drop (last h : Int) (v : Value) (sl : List ASlot) (ok : Nat → Prop) (w : World) (hr : RT ok w v last sl) (hF : FineA last sl) :
    Calls Try.prog 27 #[v, .int .i64 h] w fun e w' => ∃ v', e = .returned (.tuple #[v', .int .i64 (atE sl h)]) ∧ RT (fun b => ok b ∨ w.heap.size ≤ b) w' v' last (dropS sl h) ∧ Keeps (fun _ => False) w w' := by
  obtain ⟨Ag, cg, At, ct, rfl, hg, ht⟩ := hr.form
  have n1 := hF.n1
  have hml := things_len sl
  have hblk := blkalloc (heap_alloc_new w (.cells #[.int .i64 last, .slice Ag sl.length cg, .slice At (things sl).length ct] 54)) (.cells #[.int .i64 0, .slice none 0 0, .slice none 0 0] 54)
  have hblk2 := heap_alloc_new (w.alloc (.cells #[.int .i64 last, .slice Ag sl.length cg, .slice At (things sl).length ct] 54)) (.cells #[.int .i64 0, .slice none 0 0, .slice none 0 0] 54)
  rw [World.size_alloc] at hblk2
  have k0 : Keeps (fun _ => False) w ((w.alloc (.cells #[.int .i64 last, .slice Ag sl.length cg, .slice At (things sl).length ct] 54)).alloc (.cells #[.int .i64 0, .slice none 0 0, .slice none 0 0] 54)) := ((Keeps.refl _ _).alloc _).alloc _
  generalize hw0 : (w.alloc (.cells #[.int .i64 last, .slice Ag sl.length cg, .slice At (things sl).length ct] 54)).alloc (.cells #[.int .i64 0, .slice none 0 0, .slice none 0 0] 54) = w0 at *
  have c0 : w0.cell? ⟨w.heap.size, 0, none⟩ = some _ := (blkcell hblk 0).trans rfl
  have c1 : w0.cell? ⟨w.heap.size, 1, none⟩ = some _ := (blkcell hblk 1).trans rfl
  have c2 : w0.cell? ⟨w.heap.size, 2, none⟩ = some _ := (blkcell hblk 2).trans rfl
  by_cases he : atE sl h = 0
  · obtain ⟨cn, hcn, hcl, hct, i, hi, hil, hu, hcc⟩ := rAtI_yes he
    have hs : dropS sl h = sl.set i ⟨(sAt sl i).gen, false, 0⟩ := by rw [dropS, if_pos he, hi, Int.toNat_natCast]
    have hth := things_drop hil hu (sAt sl i).gen 0
    rw [← hcc] at hth
    have hgn := gens_set hil false 0
    obtain ⟨b, o, rfl, hct2⟩ : ∃ b o, At = some ⟨b, o, none⟩ ∧ (things sl).length ≤ ct := by
      obtain ⟨_, _, _, hv, hc, hA⟩ := ht.at_T
      injection hv with hv1 hv2 hv3
      subst hv1; subst hv3
      obtain ⟨b, o, e, _⟩ := hA (by omega)
      exact ⟨b, o, e, hc⟩
    have HC := Lib.hid hcn
    have HE := Lib.hid he
    have HS := Lib.hid hs
    have HTH := Lib.hid hth
    have HGN := Lib.hid hgn
    rw [he]
    have HT := Lib.hid ht
    clear hcn he hs hth hgn ht hu hi hcc hct
    have hcl' : (cn : Int) < (things sl).length := by omega
    have z1 : (0 : Int) ≤ (cn : Int) := by omega
    have z2 : (cn : Int) ≤ (ct : Int) := by omega
    have z3 : (0 : Int) ≤ (cn : Int) + 1 := by omega
    have z4 : (cn : Int) + 1 ≤ ((things sl).length : Int) := by omega
    by_cases hcc : ct = cn + 1
    · subst hcc
      have z5 : (cn : Int) + 1 ≤ ((cn + 1 : Nat) : Int) := by omega
      go_enter Try.func27, Try.ntmps27
      go_wp2_with fail
      refine (rt_at last h _ sl ok _ (hr.still k0) hF).mono ?_
      rintro e w1 ⟨rfl, k1⟩
      rw [HE.out, HC.out]
      have hb1 := k1.blk hblk (fun x => x)
      have hb2 := k1.blk hblk2 (fun x => x)
      have z1 := blklt hb2
      have d2 : w1.cell? ⟨w.heap.size, 2, none⟩ = some _ := (blkcell hb1 2).trans rfl
      clear hw0
      go_wp2_with (at_builtin; refine wpList_append_rds _ rfl _ _ 52 rfl (w.heap.size + 2) 101 (.agg #[.int .i64 0, .int .i64 0]) 2 16 Try.underlying52 Try.info101 rfl (by decide) (.slice none 0 0) 0 [] rfl (World.ownsRow_nil _ _ _ _) _ _ _ _ rfl ((HT.out.keeps (k0.trans' k1) (fun _ _ _ h => h)).takeT cn (by omega)) ?c1 ?c2 ?c3 ?c4 ?_)
      case c1 => exact flatT_one _
      case c2 => unfold maxLen; omega
      case c3 => omega
      case c4 => omega
      intro A1 p1 w2 hown2 hgrow2 hat2
      have hk2 : Keeps (fun _ => False) w w2 := (k0.trans' k1).grown hgrow2 (fun k hk => by simp [Value.ownBlock] at hk)
      try rw [Nat.zero_add] at hown2
      try rw [List.nil_append] at hown2
      have hd1 := grown_blk hgrow2 hb1 (by simp [Value.ownBlock])
      have hd2 := grown_blk hgrow2 hb2 (by simp [Value.ownBlock])
      have d2' : w2.cell? ⟨w.heap.size, 2, none⟩ = some _ := (blkcell hd1 2).trans rfl
      have f2' := blkfrozen hd1 2
      go_wp2_with (at_builtin; go_loud (refine wpList_append_rds _ rfl _ _ 52 rfl (w.heap.size + 2) 101 (.agg #[.int .i64 0, .int .i64 0]) 2 16 Try.underlying52 Try.info101 rfl (by decide) _ cn (flatT ((things sl).take cn)) rfl hown2 _ _ _ _ rfl (Rds.zero' (ok := ok) (by omega) (flatT_drop_nil (ts := things sl) (k := cn + 1) (by omega))) ?c1 ?c2 ?c3 ?c4 ?_))
      case c1 => exact flatT_one _
      case c2 => unfold maxLen; omega
      case c3 => omega
      case c4 => have := hgrow2.size; omega
      intro A2 p2 w3 hown3 hgrow3 hat3
      have hlen3 : cn = (things (sl.set i ⟨(sAt sl i).gen, false, 0⟩)).length := by rw [HTH.out, List.length_append, List.length_take, List.length_drop]; omega
      rw [← flatT_app, ← HTH.out, hlen3] at hown3
      have HL3 := Lib.hid hlen3
      clear hlen3
      have hne2 : ∀ g, some g = (Value.slice A1 cn p1).ownBlock → w.heap.size + 2 ≤ g := fun g e => (hown2.lt g e.symm).1
      have hk3 : Keeps (fun _ => False) w w3 := hk2.grown hgrow3 (fun k hk hlt => by have := hne2 k hk.symm; omega)
      have hd1' := grown_blk hgrow3 hd1 (fun e => by have := hne2 _ e; omega)
      have hd2' := grown_blk hgrow3 hd2 (fun e => by have := hne2 _ e; omega)
      have h30 : w3.cell? ⟨w.heap.size, 0, none⟩ = some _ := (blkcell hd1' 0).trans rfl
      have h31 : w3.cell? ⟨w.heap.size, 1, none⟩ = some _ := (blkcell hd1' 1).trans rfl
      have h32 : w3.cell? ⟨w.heap.size, 2, none⟩ = some _ := (blkcell hd1' 2).trans rfl
      have g30 : w3.cell? ⟨w.heap.size + 1, 0, none⟩ = some _ := (blkcell hd2' 0).trans rfl
      have g31 : w3.cell? ⟨w.heap.size + 1, 1, none⟩ = some _ := (blkcell hd2' 1).trans rfl
      have g32 : w3.cell? ⟨w.heap.size + 1, 2, none⟩ = some _ := (blkcell hd2' 2).trans rfl
      have q2 := blkfrozen hd1' 2
      have r0 := blkfrozen hd2' 0
      have r1 := blkfrozen hd2' 1
      have r2 := blkfrozen hd2' 2
      go_wp2_with fail
      have kk : Keeps (fun _ => False) w ((((w3.setCell ⟨w.heap.size, 2, none⟩ (.slice A2 cn p2)).setCell ⟨w.heap.size + 1, 0, none⟩ (.int .i64 last)).setCell ⟨w.heap.size + 1, 1, none⟩ (.slice Ag sl.length cg)).setCell ⟨w.heap.size + 1, 2, none⟩ (.slice A2 cn p2)) :=
        (((hk3.setCell (.inr (Nat.le_refl _)) _).setCell (.inr (Nat.le_succ _)) _).setCell (.inr (Nat.le_succ _)) _).setCell (.inr (Nat.le_succ _)) _
      have kb : Keeps (fun k => k < w.heap.size + 2) w3 ((((w3.setCell ⟨w.heap.size, 2, none⟩ (.slice A2 cn p2)).setCell ⟨w.heap.size + 1, 0, none⟩ (.int .i64 last)).setCell ⟨w.heap.size + 1, 1, none⟩ (.slice Ag sl.length cg)).setCell ⟨w.heap.size + 1, 2, none⟩ (.slice A2 cn p2)) :=
        ((((Keeps.refl (fun k => k < w.heap.size + 2) _).setCell (.inl (by show w.heap.size < w.heap.size + 2; omega)) _).setCell (.inl (by show w.heap.size + 1 < w.heap.size + 2; omega)) _).setCell (.inl (by show w.heap.size + 1 < w.heap.size + 2; omega)) _).setCell (.inl (by show w.heap.size + 1 < w.heap.size + 2; omega)) _
      refine bodyPost_ret (v := .tuple #[.agg #[.int .i64 last, .slice Ag sl.length cg, .slice A2 cn p2], .int .i64 0]) (by simp [results, Try.results27, go_sem, g30, g31, g32]) rfl ⟨_, rfl, ⟨_, _, rfl, ?_, ?_⟩, kk⟩
      · rw [HS.out, HGN.out, List.length_set]
        exact (hg.keeps kk (fun _ _ _ x => x)).mono (fun _ h _ => .inl h)
      · have h5 := ((Rds.own hown3).keeps kb (fun b hb _ => by omega)).mono (ok' := fun b => ok b ∨ w.heap.size ≤ b) (fun b hb _ => .inr (by omega))
        rw [HS.out]
        rw [HL3.out] at h5 ⊢
        exact h5
    · skip
      go_enter Try.func27, Try.ntmps27
      go_wp2_with fail
      refine (rt_at last h _ sl ok _ (hr.still k0) hF).mono ?_
      rintro e w1 ⟨rfl, k1⟩
      rw [HE.out, HC.out]
      have hb1 := k1.blk hblk (fun x => x)
      have hb2 := k1.blk hblk2 (fun x => x)
      have z1 := blklt hb2
      have d2 : w1.cell? ⟨w.heap.size, 2, none⟩ = some _ := (blkcell hb1 2).trans rfl
      clear hw0
      go_wp2_with (at_builtin; refine wpList_append_rds _ rfl _ _ 52 rfl (w.heap.size + 2) 101 (.agg #[.int .i64 0, .int .i64 0]) 2 16 Try.underlying52 Try.info101 rfl (by decide) (.slice none 0 0) 0 [] rfl (World.ownsRow_nil _ _ _ _) _ _ _ _ rfl ((HT.out.keeps (k0.trans' k1) (fun _ _ _ h => h)).takeT cn (by omega)) ?c1 ?c2 ?c3 ?c4 ?_)
      case c1 => exact flatT_one _
      case c2 => unfold maxLen; omega
      case c3 => omega
      case c4 => omega
      intro A1 p1 w2 hown2 hgrow2 hat2
      have hk2 : Keeps (fun _ => False) w w2 := (k0.trans' k1).grown hgrow2 (fun k hk => by simp [Value.ownBlock] at hk)
      try rw [Nat.zero_add] at hown2
      try rw [List.nil_append] at hown2
      have hd1 := grown_blk hgrow2 hb1 (by simp [Value.ownBlock])
      have hd2 := grown_blk hgrow2 hb2 (by simp [Value.ownBlock])
      have d2' : w2.cell? ⟨w.heap.size, 2, none⟩ = some _ := (blkcell hd1 2).trans rfl
      have f2' := blkfrozen hd1 2
      go_wp2_with (at_builtin; go_loud (refine wpList_append_rds _ rfl _ _ 52 rfl (w.heap.size + 2) 101 (.agg #[.int .i64 0, .int .i64 0]) 2 16 Try.underlying52 Try.info101 rfl (by decide) _ cn (flatT ((things sl).take cn)) rfl hown2 _ _ _ _ rfl ((HT.out.keeps hk2 (fun _ _ _ h => h)).dropT (cn + 1) (by omega) _ _ rfl (by omega)) ?c1 ?c2 ?c3 ?c4 ?_))
      case c1 => exact flatT_one _
      case c2 => unfold maxLen; omega
      case c3 => omega
      case c4 => have := hgrow2.size; omega
      intro A2 p2 w3 hown3 hgrow3 hat3
      have hlen3 : cn + ((things sl).length - (cn + 1)) = (things (sl.set i ⟨(sAt sl i).gen, false, 0⟩)).length := by rw [HTH.out, List.length_append, List.length_take, List.length_drop]; omega
      rw [← flatT_app, ← HTH.out, hlen3] at hown3
      have HL3 := Lib.hid hlen3
      clear hlen3
      have hne2 : ∀ g, some g = (Value.slice A1 cn p1).ownBlock → w.heap.size + 2 ≤ g := fun g e => (hown2.lt g e.symm).1
      have hk3 : Keeps (fun _ => False) w w3 := hk2.grown hgrow3 (fun k hk hlt => by have := hne2 k hk.symm; omega)
      have hd1' := grown_blk hgrow3 hd1 (fun e => by have := hne2 _ e; omega)
      have hd2' := grown_blk hgrow3 hd2 (fun e => by have := hne2 _ e; omega)
      have h30 : w3.cell? ⟨w.heap.size, 0, none⟩ = some _ := (blkcell hd1' 0).trans rfl
      have h31 : w3.cell? ⟨w.heap.size, 1, none⟩ = some _ := (blkcell hd1' 1).trans rfl
      have h32 : w3.cell? ⟨w.heap.size, 2, none⟩ = some _ := (blkcell hd1' 2).trans rfl
      have g30 : w3.cell? ⟨w.heap.size + 1, 0, none⟩ = some _ := (blkcell hd2' 0).trans rfl
      have g31 : w3.cell? ⟨w.heap.size + 1, 1, none⟩ = some _ := (blkcell hd2' 1).trans rfl
      have g32 : w3.cell? ⟨w.heap.size + 1, 2, none⟩ = some _ := (blkcell hd2' 2).trans rfl
      have q2 := blkfrozen hd1' 2
      have r0 := blkfrozen hd2' 0
      have r1 := blkfrozen hd2' 1
      have r2 := blkfrozen hd2' 2
      go_wp2_with fail
      have kk : Keeps (fun _ => False) w ((((w3.setCell ⟨w.heap.size, 2, none⟩ (.slice A2 (cn + ((things sl).length - (cn + 1))) p2)).setCell ⟨w.heap.size + 1, 0, none⟩ (.int .i64 last)).setCell ⟨w.heap.size + 1, 1, none⟩ (.slice Ag sl.length cg)).setCell ⟨w.heap.size + 1, 2, none⟩ (.slice A2 (cn + ((things sl).length - (cn + 1))) p2)) :=
        (((hk3.setCell (.inr (Nat.le_refl _)) _).setCell (.inr (Nat.le_succ _)) _).setCell (.inr (Nat.le_succ _)) _).setCell (.inr (Nat.le_succ _)) _
      have kb : Keeps (fun k => k < w.heap.size + 2) w3 ((((w3.setCell ⟨w.heap.size, 2, none⟩ (.slice A2 (cn + ((things sl).length - (cn + 1))) p2)).setCell ⟨w.heap.size + 1, 0, none⟩ (.int .i64 last)).setCell ⟨w.heap.size + 1, 1, none⟩ (.slice Ag sl.length cg)).setCell ⟨w.heap.size + 1, 2, none⟩ (.slice A2 (cn + ((things sl).length - (cn + 1))) p2)) :=
        ((((Keeps.refl (fun k => k < w.heap.size + 2) _).setCell (.inl (by show w.heap.size < w.heap.size + 2; omega)) _).setCell (.inl (by show w.heap.size + 1 < w.heap.size + 2; omega)) _).setCell (.inl (by show w.heap.size + 1 < w.heap.size + 2; omega)) _).setCell (.inl (by show w.heap.size + 1 < w.heap.size + 2; omega)) _
      refine bodyPost_ret (v := .tuple #[.agg #[.int .i64 last, .slice Ag sl.length cg, .slice A2 (cn + ((things sl).length - (cn + 1))) p2], .int .i64 0]) (by simp [results, Try.results27, go_sem, g30, g31, g32]) rfl ⟨_, rfl, ⟨_, _, rfl, ?_, ?_⟩, kk⟩
      · rw [HS.out, HGN.out, List.length_set]
        exact (hg.keeps kk (fun _ _ _ x => x)).mono (fun _ h _ => .inl h)
      · have h5 := ((Rds.own hown3).keeps kb (fun b hb _ => by omega)).mono (ok' := fun b => ok b ∨ w.heap.size ≤ b) (fun b hb _ => .inr (by omega))
        rw [HS.out]
        rw [HL3.out] at h5 ⊢
        exact h5
  · have hne : (atE sl h == 0) = false := by simpa using he
    rw [dropS, if_neg he]
    go_enter Try.func27, Try.ntmps27
    go_wp2_with fail
    refine (rt_at last h _ sl ok _ (hr.still k0) hF).mono ?_
    rintro e w1 ⟨rfl, k1⟩
    have hb1 := k1.blk hblk (fun x => x)
    have hb2 := k1.blk hblk2 (fun x => x)
    have d0 : w1.cell? ⟨w.heap.size, 0, none⟩ = some _ := (blkcell hb1 0).trans rfl
    have d1 : w1.cell? ⟨w.heap.size, 1, none⟩ = some _ := (blkcell hb1 1).trans rfl
    have d2 : w1.cell? ⟨w.heap.size, 2, none⟩ = some _ := (blkcell hb1 2).trans rfl
    have e0 : w1.cell? ⟨w.heap.size + 1, 0, none⟩ = some _ := (blkcell hb2 0).trans rfl
    have e1 : w1.cell? ⟨w.heap.size + 1, 1, none⟩ = some _ := (blkcell hb2 1).trans rfl
    have e2 : w1.cell? ⟨w.heap.size + 1, 2, none⟩ = some _ := (blkcell hb2 2).trans rfl
    have f0 := blkfrozen hb2 0
    have f1 := blkfrozen hb2 1
    have f2 := blkfrozen hb2 2
    go_wp2_with fail
    have kk : Keeps (fun _ => False) w (((w1.setCell ⟨w.heap.size + 1, 0, none⟩ (.int .i64 last)).setCell ⟨w.heap.size + 1, 1, none⟩ (.slice Ag sl.length cg)).setCell ⟨w.heap.size + 1, 2, none⟩ (.slice At (things sl).length ct)) :=
      (((k0.trans' k1).setCell (.inr (Nat.le_succ _)) _).setCell (.inr (Nat.le_succ _)) _).setCell (.inr (Nat.le_succ _)) _
    refine bodyPost_ret (v := .tuple #[.agg #[.int .i64 last, .slice Ag sl.length cg, .slice At (things sl).length ct], .int .i64 (atE sl h)]) (by simp [results, Try.results27, go_sem, e0, e1, e2]) rfl ⟨_, rfl, ?_, kk⟩
    exact (hr.still kk).mono (fun _ h _ => .inl h)
end Go.Proofs.Ytlfccifibhcacaa

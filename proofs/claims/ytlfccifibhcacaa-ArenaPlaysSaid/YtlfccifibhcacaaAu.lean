/- The document's table (becket/becketref02): Add, by its contract over slots. -/
import Derived.Test.YtlfccifibhcacaaAt
namespace Go.Proofs.Ytlfccifibhcacaa
open Go.RowKit
set_option linter.unusedVariables false
set_option linter.unusedSimpArgs false

theorem rds_blkT (w : World) (t : Int × Int) (ty : TypeId) : Rds (fun _ => True) (w.alloc (.cells #[.int .i64 t.1, .int .i64 t.2] ty)) (.slice (some ⟨w.heap.size, 0, none⟩) 1 1) 2 1 (flatT [t]) := by
  refine ⟨rfl, _, 1, rfl, Nat.le_refl _, .inr ⟨_, 0, rfl, trivial, by simp, fun j u hj => ?_⟩⟩
  rw [Nat.zero_add, blkcell (heap_alloc_new w _) j]
  simpa [flatT] using hj

theorem filter_take_succ (ts : List (Int × Int)) (f : Int × Int → Bool) {j : Nat} (hj : j < ts.length) : (ts.take (j + 1)).filter f = (ts.take j).filter f ++ if f (ts.getD j (0, 0)) = true then [ts.getD j (0, 0)] else [] := by
  rw [List.take_succ_eq_append_getElem hj, List.filter_append]
  have : ts.getD j (0, 0) = ts[j] := by simp [List.getD, List.getElem?_eq_getElem hj]
  rw [this]
  simp [List.filter_cons]
theorem filter_take_len (ts : List (Int × Int)) (f : Int × Int → Bool) (j : Nat) : ((ts.take j).filter f).length ≤ ts.length := by
  have h1 := List.length_filter_le f (ts.take j)
  have h2 := List.length_take_le j ts
  simp at h1
  omega
theorem gens_set1 {sl : List ASlot} {k : Nat} (ge : Int) (x : Int) : gens (sl.set k ⟨ge, true, x⟩) = (gens sl).set k ge := by simp [gens, List.map_set]

set_option maxHeartbeats 4000000 in
set_option maxRecDepth 100000 in
theorem rt_add (last x : Int) (v : Value) (sl : List ASlot) (ok : Nat → Prop) (w : World) (hr : RT ok w v last sl) (hF : FineA last sl) :
    Calls Try.prog 29 #[v, .int .i64 x] w fun e w' => ∃ v', e = .returned (.tuple #[v', .int .i64 (addH last sl), .int .i64 (addE last sl)]) ∧ RT (fun b => ok b ∨ w.heap.size ≤ b) w' v' last (addS last sl x) ∧ Keeps (fun _ => False) w w' := by
  obtain ⟨Ag, cg, At, ct, rfl, hg, ht⟩ := hr.form
  have n1 := hF.n1
  have hml := things_len sl
  have hblk := blkalloc (heap_alloc_new w (.cells #[.int .i64 last, .slice Ag sl.length cg, .slice At (things sl).length ct] 54)) (.cells #[.int .i64 0, .slice none 0 0, .slice none 0 0] 54)
  have hblk2 := heap_alloc_new (w.alloc (.cells #[.int .i64 last, .slice Ag sl.length cg, .slice At (things sl).length ct] 54)) (.cells #[.int .i64 0, .slice none 0 0, .slice none 0 0] 54)
  rw [World.size_alloc] at hblk2
  have k0 : Keeps (fun _ => False) w ((w.alloc (.cells #[.int .i64 last, .slice Ag sl.length cg, .slice At (things sl).length ct] 54)).alloc (.cells #[.int .i64 0, .slice none 0 0, .slice none 0 0] 54)) := ((Keeps.refl _ _).alloc _).alloc _
  generalize hw0 : (w.alloc (.cells #[.int .i64 last, .slice Ag sl.length cg, .slice At (things sl).length ct] 54)).alloc (.cells #[.int .i64 0, .slice none 0 0, .slice none 0 0] 54) = w0 at *
  have HG := Lib.hid hg
  have HT := Lib.hid ht
  clear hg ht
  go_enter Try.func29, Try.ntmps29
  go_wp2_with fail
  clear hw0
  go_loopg [7] sl.length (fun m i wr => ∃ k : Nat, i = .int .i64 k ∧ k + m = sl.length ∧ (∀ j, j < k → openS last (sAt sl j) = false) ∧ Keeps (fun _ => False) w0 wr)
  case atStart => exact ⟨0, rfl, by omega, fun j hj => by omega, Keeps.refl _ _⟩
  case round =>
    obtain ⟨k, rfl, hkm, hno, kw⟩ := hrel
    have HKM := Lib.hid hkm
    have HNO := Lib.hid hno
    have hkl : k ≤ sl.length := by omega
    clear hkm hno
    have hb := kw.blk hblk (fun x => x)
    have hb2 := kw.blk hblk2 (fun x => x)
    have c0 : wr.cell? ⟨w.heap.size, 0, none⟩ = some _ := (blkcell hb 0).trans rfl
    have c1 : wr.cell? ⟨w.heap.size, 1, none⟩ = some _ := (blkcell hb 1).trans rfl
    have c2 : wr.cell? ⟨w.heap.size, 2, none⟩ = some _ := (blkcell hb 2).trans rfl
    by_cases hk : k < sl.length
    · have hk' : (k : Int) < sl.length := by omega
      cases ho : openS last (sAt sl k) with
      | false =>
        have HO := Lib.hid ho
        clear ho
        go_wp2_with fail
        refine (rt_open last k _ sl ok _ (hr.still (k0.trans' kw)) hF hk).mono ?_
        rintro e w1 ⟨rfl, k1⟩
        rw [HO.out]
        go_wp2_with fail
        have hkm := HKM.out
        go_roundg (gk - 1)
        case measure => omega
        case rel => exact ⟨k + 1, by go_num, by omega, fun j hj => by
          by_cases e : j = k
          · subst e; exact HO.out
          · exact HNO.out j (by omega), kw.trans' k1⟩
      | true =>
        have hfo := firstO_at hk ho HNO.out
        have HO := Lib.hid ho
        have hop := firstO_open (last := last) (sl := sl) (by omega)
        rw [hfo] at hop
        have hs : addS last sl x = sl.set k ⟨(sAt sl k).gen + 1, true, x⟩ := by rw [addS, if_pos (by omega), hfo]
        have hH : addH last sl = ((sAt sl k).gen + 1) * 4096 + k := by rw [addH, if_pos (by omega), hfo]
        have hE : addE last sl = 0 := by rw [addE, if_pos (by omega)]
        have hth := things_add hk hop.1 ((sAt sl k).gen + 1) x
        have hgn := gens_set1 (sl := sl) (k := k) ((sAt sl k).gen + 1) x
        have hga := gens_at hk
        have HS := Lib.hid hs
        have HH := Lib.hid hH
        have HE := Lib.hid hE
        have HTH := Lib.hid hth
        have HGN := Lib.hid hgn
        have hge := hF.gen k hk
        have hl2 := hF.l2
        have g0 : 0 ≤ (sAt sl k).gen := hge.1
        have g1l : (sAt sl k).gen < last := hop.2
        clear ho hfo hs hop hH hE hth hgn hge
        generalize (sAt sl k).gen = ge at *
        go_wp2_with fail
        refine (rt_open last k _ sl ok _ (hr.still (k0.trans' kw)) hF hk).mono ?_
        rintro e w1 ⟨rfl, k1⟩
        rw [HO.out]
        have kw1 := (k0.trans' kw).trans' k1
        have hd := k1.blk hb (fun x => x)
        have hd2 := k1.blk hb2 (fun x => x)
        have z1 := blklt hd2
        have c1' : w1.cell? ⟨w.heap.size, 1, none⟩ = some _ := (blkcell hd 1).trans rfl
        go_wp2_with (at_builtin; go_loud (refine wpList_append_rds _ rfl _ _ 28 rfl (w.heap.size + 2) 3 (.int .i64 0) 1 8 Try.underlying28 Try.info3h rfl (by decide) (.slice none 0 0) 0 [] rfl (World.ownsRow_nil _ _ _ _) _ _ _ _ rfl (HG.out.keeps kw1 (fun _ _ _ h => h)) ?c1 ?c2 ?c3 ?c4 ?_))
        case c1 => exact ints_one' _ _
        case c2 => unfold maxLen; omega
        case c3 => omega
        case c4 => omega
        intro A1 p1 w2 hown2 hgrow2 hat2
        have hk2 : Keeps (fun _ => False) w w2 := kw1.grown hgrow2 (fun k hk => by simp [Value.ownBlock] at hk)
        try rw [Nat.zero_add] at hown2
        try rw [List.nil_append] at hown2
        obtain ⟨g1, rfl, hg1, hp1, ⟨cs1, hbl1⟩, hcell1⟩ := own_at hown2 (by omega)
        have he := grown_blk hgrow2 hd (by simp [Value.ownBlock])
        have he2 := grown_blk hgrow2 hd2 (by simp [Value.ownBlock])
        have hck : w2.cell? ⟨g1, k, none⟩ = some (.int .i64 ge) := hcell1 k _ (by rw [← hga]; simp [ints, List.getD, hk])
        have e1 : w2.cell? ⟨w.heap.size, 1, none⟩ = some _ := (blkcell he 1).trans rfl
        have e2 : w2.cell? ⟨w.heap.size, 2, none⟩ = some _ := (blkcell he 2).trans rfl
        have f1 := blkfrozen he 1
        have fk := blkfrozen hbl1 k
        have hg0 : g1 ≠ w.heap.size := by omega
        have hg0' : w.heap.size ≠ g1 := by omega
        clear hga
        have HC1 := Lib.hid hcell1
        clear hcell1
        go_wp2_with fail
        -- what the world is like ahead of the two loops
        have kL : Keeps (fun _ => False) w ((w2.setCell ⟨w.heap.size, 1, none⟩ (.slice (some ⟨g1, 0, none⟩) sl.length p1)).setCell ⟨g1, k, none⟩ (.int .i64 (ge + 1))) :=
          (hk2.setCell (.inr (Nat.le_refl _)) _).setCell (.inr (show w.heap.size ≤ g1 by omega)) _
        have lB : ((w2.setCell ⟨w.heap.size, 1, none⟩ (.slice (some ⟨g1, 0, none⟩) sl.length p1)).setCell ⟨g1, k, none⟩ (.int .i64 (ge + 1))).heap[w.heap.size]? = some (.cells #[.int .i64 last, .slice (some ⟨g1, 0, none⟩) sl.length p1, .slice At (things sl).length ct] 54 (0, 0)) := by
          refine blkfar ?_ hg0' _
          rw [blkset he]; rfl
        have lR : ((w2.setCell ⟨w.heap.size, 1, none⟩ (.slice (some ⟨g1, 0, none⟩) sl.length p1)).setCell ⟨g1, k, none⟩ (.int .i64 (ge + 1))).heap[w.heap.size + 1]? = some (.cells #[.int .i64 0, .slice none 0 0, .slice none 0 0] 54 (0, 0)) :=
          blkfar (blkfar he2 (show w.heap.size + 1 ≠ w.heap.size by omega) _) (show w.heap.size + 1 ≠ g1 by omega) _
        have lG : ∀ j u, (ints (gens (sl.set k ⟨ge + 1, true, x⟩)))[j]? = some u → ((w2.setCell ⟨w.heap.size, 1, none⟩ (.slice (some ⟨g1, 0, none⟩) sl.length p1)).setCell ⟨g1, k, none⟩ (.int .i64 (ge + 1))).cell? ⟨g1, j, none⟩ = some u := by
          intro j u hu
          rw [HGN.out, ints, List.map_set, List.getElem?_set] at hu
          by_cases e : k = j
          · subst e
            rw [if_pos rfl] at hu
            split at hu
            · injection hu with hu; subst hu
              exact World.cell?_setCell_same' _ _ _ (by rw [acs_ne hck (aad_ne (.inl hg0'))]; rfl)
            · cases hu
          · rw [if_neg e] at hu
            replace hu : (List.map (Value.int IntKind.i64 ∘ ASlot.gen) sl)[j]? = some u := by rw [← List.map_map]; exact hu
            exact acs_ne (acs_ne (HC1.out j u hu) (aad_ne (.inl hg0'))) (aad_ne (.inr e))
        have lz : g1 < ((w2.setCell ⟨w.heap.size, 1, none⟩ (.slice (some ⟨g1, 0, none⟩) sl.length p1)).setCell ⟨g1, k, none⟩ (.int .i64 (ge + 1))).heap.size := by
          have := blklt hbl1; simpa [World.setCell] using this
        generalize (w2.setCell ⟨w.heap.size, 1, none⟩ (.slice (some ⟨g1, 0, none⟩) sl.length p1)).setCell ⟨g1, k, none⟩ (.int .i64 (ge + 1)) = wL at *
        have zL := blklt lR
        clear hk2 hgrow2 hat2 hown2 hbl1 he he2 hck e1 e2 f1 fk HC1 kw1 hd hd2 c1' k1 z1 kw hb hb2 c0 c1 c2
        have LG := Lib.hid lG
        clear lG
        go_loopg [8, 9] (things sl).length (fun m l i wr => ∃ j : Nat, i = .int .i64 j ∧ j + m = (things sl).length ∧ Keeps (fun _ => False) wL wr ∧ wr.ownsRow wL.heap.size 101 2 l (((things sl).take j).filter (fun t => decide (t.1 < (k : Int)))).length (flatT (((things sl).take j).filter (fun t => decide (t.1 < (k : Int))))))
        case atStart => exact ⟨0, rfl, by omega, Keeps.refl _ _, World.ownsRow_nil _ _ _ _⟩
        case round =>
          obtain ⟨j, rfl, hjm, kw, hown⟩ := hrel
          have HJM := Lib.hid hjm
          have hjl : j ≤ (things sl).length := by omega
          clear hjm
          have hb := kw.blk lB (fun x => x)
          have c2 : wr.cell? ⟨w.heap.size, 2, none⟩ = some _ := (blkcell hb 2).trans rfl
          have hsz := kw.size
          have hfl := filter_take_len (things sl) (fun t => decide (t.1 < (k : Int))) j
          obtain ⟨A, c, rfl⟩ := own_slice' hown
          by_cases hj : j < (things sl).length
          · have hj' : (j : Int) < (things sl).length := by omega
            have hsucc := filter_take_succ (things sl) (fun t => decide (t.1 < (k : Int))) hj
            obtain ⟨b, o, hAt, hb', hct⟩ : ∃ b o, At = some ⟨b, o, none⟩ ∧ b < w.heap.size ∧ ∀ j, j < (things sl).length → w.cell? ⟨b, o + j * 2, none⟩ = some (.int .i64 ((things sl).getD j (0, 0)).1) ∧ w.cell? ⟨b, o + j * 2 + 1, none⟩ = some (.int .i64 ((things sl).getD j (0, 0)).2) := by
              obtain ⟨_, _, _, hv, _, hc⟩ := HT.out.at_T
              injection hv with hv1 hv2 hv3
              subst hv1
              exact hc (by omega)
            obtain ⟨hx0, hx1⟩ := hct j hj
            clear hct
            have hx0' := ((kL.trans' kw).cell (p := ⟨b, o + j * 2, none⟩) hb' (fun x => x)).trans hx0
            have hx1' := ((kL.trans' kw).cell (p := ⟨b, o + j * 2 + 1, none⟩) hb' (fun x => x)).trans hx1
            rw [hAt] at c2
            have HAt := Lib.hid hAt
            clear hx0 hx1 hAt hb
            generalize (things sl).getD j (0, 0) = t at *
            by_cases hlt : t.1 < (k : Int)
            · rw [if_pos (decide_eq_true hlt)] at hsucc
              have HSU := Lib.hid hsucc
              clear hsucc
              generalize ((things sl).take j).filter (fun t => decide (t.1 < (k : Int))) = acc at *
              go_wp2_with (at_builtin; go_loud (refine wpList_append_rds _ rfl _ _ 52 rfl wL.heap.size 101 (.agg #[.int .i64 0, .int .i64 0]) 2 16 Try.underlying52 Try.info101 rfl (by decide) _ _ _ rfl (hown.alloc _) _ _ 1 (flatT [t]) rfl (rds_blkT _ _ _) ?c1 ?c2 ?c3 ?c4 ?_))
              case c1 => exact flatT_one _
              case c2 => unfold maxLen; omega
              case c3 => omega
              case c4 => simp; omega
              intro A3 p3 w3 hown3 hgrow3 hat3
              have hk3 : Keeps (fun _ => False) wL w3 := (kw.alloc _).grown hgrow3 (fun j hj hjlt => by have := (hown.lt j hj).1; omega)
              go_wp2_with fail
              have hjm := HJM.out
              go_roundg (gk - 1)
              case measure => omega
              case rel => exact ⟨j + 1, by go_num, by omega, hk3, by rw [HSU.out, flatT_app, List.length_append]; exact hown3⟩
            · rw [if_neg (by simpa using hlt), List.append_nil] at hsucc
              have HSU := Lib.hid hsucc
              clear hsucc
              go_wp2_with fail
              have hjm := HJM.out
              go_roundg (gk - 1)
              case measure => omega
              case rel => exact ⟨j + 1, by go_num, by omega, kw, by rw [HSU.out]; exact hown⟩
          · have e : j = (things sl).length := by omega
            clear hj
            subst e
            rw [List.take_length] at hown hfl ⊢
            generalize hlo : (things sl).filter (fun t => decide (t.1 < (k : Int))) = lo at *
            have HLO := Lib.hid hlo
            clear hlo
            go_wp2_with (at_builtin; go_loud (refine wpList_append_rds _ rfl _ _ 52 rfl wL.heap.size 101 (.agg #[.int .i64 0, .int .i64 0]) 2 16 Try.underlying52 Try.info101 rfl (by decide) _ _ _ rfl (hown.alloc _) _ _ 1 (flatT [((k : Int), x)]) rfl (rds_blkT _ ((k : Int), x) _) ?c1 ?c2 ?c3 ?c4 ?_))
            case c1 => exact flatT_one _
            case c2 => unfold maxLen; omega
            case c3 => omega
            case c4 => simp; omega
            intro A3 p3 w3 hown3 hgrow3 hat3
            have hk3 : Keeps (fun _ => False) wL w3 := (kw.alloc _).grown hgrow3 (fun j hj hjlt => by have := (hown.lt j hj).1; omega)
            rw [← flatT_app] at hown3
            have hb3 := hk3.blk lB (fun x => x)
            clear hgrow3 hat3 hown hb c2 hsz kw
            go_wp2_with fail
            go_loopg [8, 10] (things sl).length (fun m l i wr => ∃ (j : Nat) (acc : List (Int × Int)), i = .int .i64 j ∧ j + m = (things sl).length ∧ Keeps (fun _ => False) wL wr ∧ acc = lo ++ [((k : Int), x)] ++ ((things sl).take j).filter (fun t => decide ((k : Int) < t.1)) ∧ wr.ownsRow wL.heap.size 101 2 l acc.length (flatT acc))
            case atStart => exact ⟨0, _, rfl, by omega, hk3, rfl, by simpa using hown3⟩
            case round =>
              obtain ⟨j, acc, rfl, hjm, kw, hacc, hown⟩ := hrel
              have HJM := Lib.hid hjm
              have hjl : j ≤ (things sl).length := by omega
              clear hjm
              have hb := kw.blk lB (fun x => x)
              have c1 : wr.cell? ⟨w.heap.size, 1, none⟩ = some _ := (blkcell hb 1).trans rfl
              have c2 : wr.cell? ⟨w.heap.size, 2, none⟩ = some _ := (blkcell hb 2).trans rfl
              have hsz := kw.size
              have hfl2 := filter_take_len (things sl) (fun t => decide ((k : Int) < t.1)) j
              have hal : acc.length ≤ 100 := by rw [hacc]; simp only [List.length_append, List.length_cons, List.length_nil]; omega
              have HACC := Lib.hid hacc
              clear hacc hfl2
              obtain ⟨A, c, rfl⟩ := own_slice' hown
              by_cases hj : j < (things sl).length
              · have hj' : (j : Int) < (things sl).length := by omega
                have hsucc := filter_take_succ (things sl) (fun t => decide ((k : Int) < t.1)) hj
                obtain ⟨b, o, hAt, hb', hct⟩ : ∃ b o, At = some ⟨b, o, none⟩ ∧ b < w.heap.size ∧ ∀ j, j < (things sl).length → w.cell? ⟨b, o + j * 2, none⟩ = some (.int .i64 ((things sl).getD j (0, 0)).1) ∧ w.cell? ⟨b, o + j * 2 + 1, none⟩ = some (.int .i64 ((things sl).getD j (0, 0)).2) := by
                  obtain ⟨_, _, _, hv, _, hc⟩ := HT.out.at_T
                  injection hv with hv1 hv2 hv3
                  subst hv1
                  exact hc (by omega)
                obtain ⟨hx0, hx1⟩ := hct j hj
                clear hct
                have hx0' := ((kL.trans' kw).cell (p := ⟨b, o + j * 2, none⟩) hb' (fun x => x)).trans hx0
                have hx1' := ((kL.trans' kw).cell (p := ⟨b, o + j * 2 + 1, none⟩) hb' (fun x => x)).trans hx1
                rw [hAt] at c2
                have HAt := Lib.hid hAt
                clear hx0 hx1 hAt hb c1
                generalize (things sl).getD j (0, 0) = t at *
                by_cases hlt : (k : Int) < t.1
                · rw [if_pos (decide_eq_true hlt)] at hsucc
                  have HSU := Lib.hid hsucc
                  clear hsucc
                  go_wp2_with (at_builtin; go_loud (refine wpList_append_rds _ rfl _ _ 52 rfl wL.heap.size 101 (.agg #[.int .i64 0, .int .i64 0]) 2 16 Try.underlying52 Try.info101 rfl (by decide) _ _ _ rfl (hown.alloc _) _ _ 1 (flatT [t]) rfl (rds_blkT _ _ _) ?c1 ?c2 ?c3 ?c4 ?_))
                  case c1 => exact flatT_one _
                  case c2 => unfold maxLen; omega
                  case c3 => omega
                  case c4 => simp; omega
                  intro A4 p4 w4 hown4 hgrow4 hat4
                  have hk4 : Keeps (fun _ => False) wL w4 := (kw.alloc _).grown hgrow4 (fun j hj hjlt => by have := (hown.lt j hj).1; omega)
                  go_wp2_with fail
                  have hjm := HJM.out
                  go_roundg (gk - 1)
                  case measure => omega
                  case rel => exact ⟨j + 1, acc ++ [t], by go_num, by omega, hk4, by rw [HSU.out, HACC.out]; simp only [List.append_assoc], by rw [flatT_app, List.length_append]; exact hown4⟩
                · rw [if_neg (by simpa using hlt), List.append_nil] at hsucc
                  have HSU := Lib.hid hsucc
                  clear hsucc
                  go_wp2_with fail
                  have hjm := HJM.out
                  go_roundg (gk - 1)
                  case measure => omega
                  case rel => exact ⟨j + 1, acc, by go_num, by omega, kw, by rw [HSU.out, HACC.out], hown⟩
              · have e : j = (things sl).length := by omega
                have hth : acc = things (sl.set k ⟨ge + 1, true, x⟩) := by
                  rw [HACC.out, e, List.take_length, HTH.out]
                  simp only [List.append_assoc, List.singleton_append]
                clear HACC
                subst hth
                clear e hjl
                have hb2 := kw.blk lR (fun x => x)
                have c0 : wr.cell? ⟨w.heap.size, 0, none⟩ = some _ := (blkcell hb 0).trans rfl
                have hgk : wr.cell? ⟨g1, k, none⟩ = some (.int .i64 (ge + 1)) := (kw.cell (p := ⟨g1, k, none⟩) lz (fun x => x)).trans (LG.out k _ (by rw [HGN.out]; simp [ints, hk]))
                have e0 : wr.cell? ⟨w.heap.size + 1, 0, none⟩ = some _ := (blkcell hb2 0).trans rfl
                have e1 : wr.cell? ⟨w.heap.size + 1, 1, none⟩ = some _ := (blkcell hb2 1).trans rfl
                have e2 : wr.cell? ⟨w.heap.size + 1, 2, none⟩ = some _ := (blkcell hb2 2).trans rfl
                have q2 := blkfrozen hb 2
                have f0 := blkfrozen hb2 0
                have f1 := blkfrozen hb2 1
                have f2 := blkfrozen hb2 2
                have hT := Rds.own hown
                generalize hn' : things (sl.set k ⟨ge + 1, true, x⟩) = ts' at *
                have HN' := Lib.hid hn'
                clear hn' hown
                go_wp2_with fail
                refine (rd_make (k : Int) (ge + 1) _ (by omega) (by omega) (by omega) (by omega)).mono ?_
                rintro e w' ⟨rfl, rfl⟩
                go_wp2_with fail
                have kw' := kL.trans' kw
                have kk : Keeps (fun _ => False) w ((((wr.setCell ⟨w.heap.size, 2, none⟩ (.slice A ts'.length c)).setCell ⟨w.heap.size + 1, 0, none⟩ (.int .i64 last)).setCell ⟨w.heap.size + 1, 1, none⟩ (.slice (some ⟨g1, 0, none⟩) sl.length p1)).setCell ⟨w.heap.size + 1, 2, none⟩ (.slice A ts'.length c)) :=
                  (((kw'.setCell (.inr (Nat.le_refl _)) _).setCell (.inr (Nat.le_succ _)) _).setCell (.inr (Nat.le_succ _)) _).setCell (.inr (Nat.le_succ _)) _
                have kb : Keeps (fun k => k < w.heap.size + 2) wr ((((wr.setCell ⟨w.heap.size, 2, none⟩ (.slice A ts'.length c)).setCell ⟨w.heap.size + 1, 0, none⟩ (.int .i64 last)).setCell ⟨w.heap.size + 1, 1, none⟩ (.slice (some ⟨g1, 0, none⟩) sl.length p1)).setCell ⟨w.heap.size + 1, 2, none⟩ (.slice A ts'.length c)) :=
                  ((((Keeps.refl (fun k => k < w.heap.size + 2) _).setCell (.inl (by show w.heap.size < w.heap.size + 2; omega)) _).setCell (.inl (by show w.heap.size + 1 < w.heap.size + 2; omega)) _).setCell (.inl (by show w.heap.size + 1 < w.heap.size + 2; omega)) _).setCell (.inl (by show w.heap.size + 1 < w.heap.size + 2; omega)) _
                refine bodyPost_ret (v := .tuple #[.agg #[.int .i64 last, .slice (some ⟨g1, 0, none⟩) sl.length p1, .slice A ts'.length c], .int .i64 ((ge + 1) * 4096 + k), .int .i64 0]) (by simp [results, Try.results29, go_sem, e0, e1, e2]) rfl ⟨_, by rw [HH.out, HE.out], ⟨_, _, rfl, ?_, ?_⟩, kk⟩
                · rw [HS.out, List.length_set]
                  have hG : Rds (fun b => b = g1) wr (.slice (some ⟨g1, 0, none⟩) sl.length p1) 1 sl.length (ints (gens (sl.set k ⟨ge + 1, true, x⟩))) := by
                    refine ⟨by simp [gens], _, p1, rfl, hp1, .inr ⟨g1, 0, rfl, rfl, Nat.lt_of_lt_of_le lz kw.size, fun j u hu => ?_⟩⟩
                    rw [Nat.zero_add]
                    exact (kw.cell (p := ⟨g1, j, none⟩) lz (fun x => x)).trans (LG.out j u hu)
                  exact (hG.keeps kb (fun b hb _ => by omega)).mono (fun b hb _ => .inr (by omega))
                · rw [HS.out, HN'.out]
                  exact (hT.keeps kb (fun b hb _ => by omega)).mono (fun b hb _ => .inr (by omega))
    · have e : k = sl.length := by omega
      subst e
      have hn := firstO_none HNO.out
      have hs : addS last sl x = sl := by rw [addS, if_neg hn]
      have hH : addH last sl = 0 := by rw [addH, if_neg hn]
      have hE : addE last sl = 10 := by rw [addE, if_neg hn]
      have HH := Lib.hid hH
      have HE := Lib.hid hE
      have HS := Lib.hid hs
      clear hn hs hH hE
      have e0 : wr.cell? ⟨w.heap.size + 1, 0, none⟩ = some _ := (blkcell hb2 0).trans rfl
      have e1 : wr.cell? ⟨w.heap.size + 1, 1, none⟩ = some _ := (blkcell hb2 1).trans rfl
      have e2 : wr.cell? ⟨w.heap.size + 1, 2, none⟩ = some _ := (blkcell hb2 2).trans rfl
      have f0 := blkfrozen hb2 0
      have f1 := blkfrozen hb2 1
      have f2 := blkfrozen hb2 2
      go_wp2_with fail
      have kk : Keeps (fun _ => False) w (((wr.setCell ⟨w.heap.size + 1, 0, none⟩ (.int .i64 last)).setCell ⟨w.heap.size + 1, 1, none⟩ (.slice Ag sl.length cg)).setCell ⟨w.heap.size + 1, 2, none⟩ (.slice At (things sl).length ct)) :=
        (((k0.trans' kw).setCell (.inr (Nat.le_succ _)) _).setCell (.inr (Nat.le_succ _)) _).setCell (.inr (Nat.le_succ _)) _
      refine bodyPost_ret (v := .tuple #[.agg #[.int .i64 last, .slice Ag sl.length cg, .slice At (things sl).length ct], .int .i64 0, .int .i64 10]) (by simp [results, Try.results29, go_sem, e0, e1, e2]) rfl ⟨_, by rw [HH.out, HE.out], ?_, kk⟩
      rw [HS.out]
      exact (hr.still kk).mono (fun _ h _ => .inl h)
end Go.Proofs.Ytlfccifibhcacaa

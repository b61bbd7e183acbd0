/- The document's table (becket/becketref02): open, Free, Handles, New, by their contracts over slots. -/
import Derived.Test.YtlfccifibhcacaaAq
import Derived.Test.YtlfccifibhcacaaKk
namespace Go.Proofs.Ytlfccifibhcacaa
open Go.RowKit
set_option linter.unusedVariables false
set_option linter.unusedSimpArgs false

set_option maxHeartbeats 1600000 in
theorem rt_open (last : Int) (i : Nat) (v : Value) (sl : List ASlot) (ok : Nat → Prop) (w : World) (hr : RT ok w v last sl) (hF : FineA last sl) (hil : i < sl.length) :
    Calls Try.prog 53 #[v, .int .i64 i] w fun e w' => e = .returned (.bool (openS last (sAt sl i))) ∧ Keeps (fun _ => False) w w' := by
  obtain ⟨Ag, cg, At, ct, rfl, hg, ht⟩ := hr.form
  have n1 := hF.n1
  have hml := things_len sl
  have hblk := heap_alloc_new w (.cells #[.int .i64 last, .slice Ag sl.length cg, .slice At (things sl).length ct] 54)
  have k0 : Keeps (fun _ => False) w (w.alloc (.cells #[.int .i64 last, .slice Ag sl.length cg, .slice At (things sl).length ct] 54)) := (Keeps.refl _ _).alloc _
  generalize hw0 : w.alloc (.cells #[.int .i64 last, .slice Ag sl.length cg, .slice At (things sl).length ct] 54) = w0 at *
  have hft : findT (things sl) i = if (sAt sl i).used = true then ((cnt sl i : Nat) : Int) else -1 := by
    split
    · rename_i hu; exact findT_yes hil hu
    · rename_i hu; exact findT_no hil (by simpa using hu)
  obtain ⟨b, o, hAg, hb, hcg⟩ : ∃ b o, Ag = some ⟨b, o, none⟩ ∧ b < w.heap.size ∧ w.cell? ⟨b, o + i, none⟩ = some (.int .i64 (sAt sl i).gen) := by
    obtain ⟨_, _, _, hv, _, hc⟩ := hg.at_int
    injection hv with hv1 hv2 hv3
    subst hv1
    obtain ⟨b, o, e, hc⟩ := hc (by omega)
    have := hc i hil
    rw [gens_at hil] at this
    exact ⟨b, o, e, cell_below this, this⟩
  subst hAg
  have HFT := Lib.hid hft
  clear hft
  generalize hcnt : (cnt sl i : Nat) = cn at *
  clear hcnt
  unfold openS
  generalize sAt sl i = t at *
  obtain ⟨ge, us, x⟩ := t
  dsimp only at hcg HFT ⊢
  have hcg0 := (k0.cell (p := ⟨b, o + i, none⟩) hb (fun x => x)).trans hcg
  have hb0 : b < w0.heap.size := by have := k0.size; omega
  have hS0 : ∀ W : KW w0, W.w.cell? ⟨w.heap.size, 0, none⟩ = some (.int .i64 last) := fun W => (blkcell (W.keeps.blk hblk (fun x => x)) 0).trans rfl
  have hS1 : ∀ W : KW w0, W.w.cell? ⟨w.heap.size, 1, none⟩ = some (.slice (some ⟨b, o, none⟩) sl.length cg) := fun W => (blkcell (W.keeps.blk hblk (fun x => x)) 1).trans rfl
  have hS2 : ∀ W : KW w0, W.w.cell? ⟨w.heap.size, 2, none⟩ = some (.slice At (things sl).length ct) := fun W => (blkcell (W.keeps.blk hblk (fun x => x)) 2).trans rfl
  have hS3 : ∀ W : KW w0, W.w.cell? ⟨b, o + i, none⟩ = some (.int .i64 ge) := fun W => (W.keeps.cell (p := ⟨b, o + i, none⟩) hb0 (fun x => x)).trans hcg0
  have ht0 := ht.keeps k0 (fun _ _ _ x => x)
  have hfind : ∀ c : Int, findT (things sl) i = c → ∀ W : KW w0, Calls Try.prog 73 #[.agg #[.int .i64 last, .slice (some ⟨b, o, none⟩) sl.length cg, .slice At (things sl).length ct], .int .i64 i] W.w fun e w' => e = .returned (.int .i64 c) ∧ Keeps (fun _ => False) W.w w' := fun c hc W => hc ▸ rt_find last i _ _ _ _ (things sl) ok _ (ht0.keeps W.keeps (fun _ _ _ x => x)) (by omega)
  cases us with
  | true =>
    obtain ⟨c, hfc, hcn⟩ : ∃ c : Int, findT (things sl) i = c ∧ decide (c < 0) = false := ⟨cn, HFT.out.trans (if_pos rfl), decide_eq_false (by omega)⟩
    replace HFT := Lib.hid hfc
    clear hfc
    go_enter Try.func53, Try.ntmps53
    go_wp2_with fail
    clear hw0
    refine wp_qkeep (w0 := w0) (Keeps.refl _ _) (by kernel_rfl) (by kernel_rfl) ?_
    repeat (go_big_quiet_step ((go_at_call 73; exact calls_k (hfind c HFT.out _))))
    refine wpQuiet_nil (fun W => ?_)
    go_wp2_with fail
    go_ret
    exact ⟨rfl, k0.trans' W.keeps⟩
  | false =>
    replace HFT : Hid (findT (things sl) i = -1) := Lib.hid (HFT.out.trans (if_neg (by simp)))
    go_enter Try.func53, Try.ntmps53
    go_wp2_with fail
    clear hw0
    refine wp_qkeep (w0 := w0) (Keeps.refl _ _) (by kernel_rfl) (by kernel_rfl) ?_
    repeat (go_big_quiet_step ((go_at_call 73; exact calls_k (hfind (-1) HFT.out _))))
    refine wpQuiet_nil (fun W => ?_)
    go_wp2_with fail
    go_ret
    exact ⟨by simp, k0.trans' W.keeps⟩

set_option maxHeartbeats 1600000 in
theorem rt_free (last : Int) (v : Value) (sl : List ASlot) (ok : Nat → Prop) (w : World) (hr : RT ok w v last sl) (hF : FineA last sl) :
    Calls Try.prog 57 #[v] w fun e w' => e = .returned (.int .i64 (freeA last sl : Nat)) ∧ Keeps (fun _ => False) w w' := by
  obtain ⟨Ag, cg, At, ct, rfl, hg, ht⟩ := hr.form
  have n1 := hF.n1
  have hblk := heap_alloc_new w (.cells #[.int .i64 last, .slice Ag sl.length cg, .slice At (things sl).length ct] 54)
  have k0 : Keeps (fun _ => False) w (w.alloc (.cells #[.int .i64 last, .slice Ag sl.length cg, .slice At (things sl).length ct] 54)) := (Keeps.refl _ _).alloc _
  generalize hw0 : w.alloc (.cells #[.int .i64 last, .slice Ag sl.length cg, .slice At (things sl).length ct] 54) = w0 at *
  go_enter Try.func57, Try.ntmps57
  go_wp2_with fail
  clear hw0
  go_loopg [3, 4] sl.length (fun m c i wr => ∃ k : Nat, i = .int .i64 k ∧ k + m = sl.length ∧ c = .int .i64 (((sl.take k).filter (openS last)).length : Nat) ∧ Keeps (fun _ => False) w0 wr)
  case atStart => exact ⟨0, rfl, by omega, rfl, Keeps.refl _ _⟩
  case round =>
    obtain ⟨k, rfl, hkm, rfl, kw⟩ := hrel
    have HKM := Lib.hid hkm
    have hkl : k ≤ sl.length := by omega
    clear hkm
    have hb := kw.blk hblk (fun x => x)
    have c0 : wr.cell? ⟨w.heap.size, 0, none⟩ = some _ := (blkcell hb 0).trans rfl
    have c1 : wr.cell? ⟨w.heap.size, 1, none⟩ = some _ := (blkcell hb 1).trans rfl
    have c2 : wr.cell? ⟨w.heap.size, 2, none⟩ = some _ := (blkcell hb 2).trans rfl
    by_cases hk : k < sl.length
    · have hk' : (k : Int) < sl.length := by omega
      have hcl : ((sl.take k).filter (openS last)).length ≤ 30 := by
        have := List.length_filter_le (openS last) (sl.take k)
        simp at this; omega
      have hsucc : (sl.take (k + 1)).filter (openS last) = (sl.take k).filter (openS last) ++ if openS last (sAt sl k) = true then [sAt sl k] else [] := by
        rw [List.take_succ_eq_append_getElem hk, List.filter_append, sAt_get hk]
        simp [List.filter_cons]
      have HS := Lib.hid hsucc
      clear hsucc
      go_wp2_with fail
      refine (rt_open last k _ sl ok _ (hr.still (k0.trans' kw)) hF hk).mono ?_
      rintro e w1 ⟨rfl, k1⟩
      have hsucc := HS.out
      cases ho : openS last (sAt sl k) with
      | true =>
        rw [ho, if_pos rfl] at hsucc
        have HS2 := Lib.hid hsucc
        clear hsucc ho
        go_wp2_with fail
        have hkm := HKM.out
        go_roundg (gk - 1)
        case measure => omega
        case rel => exact ⟨k + 1, by go_num, by omega, by rw [HS2.out, List.length_append]; go_num, kw.trans' k1⟩
      | false =>
        rw [ho, if_neg (by simp), List.append_nil] at hsucc
        have HS2 := Lib.hid hsucc
        clear hsucc ho
        go_wp2_with fail
        have hkm := HKM.out
        go_roundg (gk - 1)
        case measure => omega
        case rel => exact ⟨k + 1, by go_num, by omega, by rw [HS2.out], kw.trans' k1⟩
    · have e : k = sl.length := by omega
      subst e
      go_wp2_with fail
      go_ret
      exact ⟨by rw [List.take_length]; rfl, k0.trans' kw⟩

theorem handles_take {sl : List ASlot} {k : Nat} (hk : k < (things sl).length) : ((things sl).take (k + 1)).map (handleOf sl) = ((things sl).take k).map (handleOf sl) ++ [(sAt sl ((things sl).getD k (0, 0)).1.toNat).gen * 4096 + ((things sl).getD k (0, 0)).1] := by
  rw [List.take_succ_eq_append_getElem hk, List.map_append]
  simp [handleOf, List.getD, List.getElem?_eq_getElem hk]

theorem thing_slot {sl : List ASlot} (hF : ∀ i, i < sl.length → (sAt sl i).used = true → 1 ≤ (sAt sl i).gen) : ∀ t ∈ things sl, ∃ i : Nat, t.1 = i ∧ i < sl.length ∧ 1 ≤ (sAt sl i).gen := by
  intro t ht
  have hb := thingsFrom_lo sl 0 t ht
  obtain ⟨i, hi⟩ : ∃ i : Nat, t.1 = i := ⟨t.1.toNat, by omega⟩
  have hil : i < sl.length := by omega
  refine ⟨i, hi, hil, hF i hil ?_⟩
  cases hu : (sAt sl i).used with
  | true => rfl
  | false =>
    exfalso
    have h := things_split hil
    rw [if_neg (nu hu), List.append_nil] at h
    rw [h] at ht
    rcases List.mem_append.1 ht with ht | ht
    · have := lo_lt hil t ht; omega
    · have := hi_gt t ht; omega

set_option maxHeartbeats 1600000 in
theorem rt_handles (last : Int) (v : Value) (sl : List ASlot) (ok : Nat → Prop) (w : World) (hr : RT ok w v last sl) (hF : FineA last sl) :
    Calls Try.prog 56 #[v] w fun e w' => ∃ u, e = .returned u ∧ Rds (fun b => w.heap.size ≤ b) w' u 1 (handlesA sl).length (ints (handlesA sl)) ∧ Keeps (fun _ => False) w w' := by
  obtain ⟨Ag, cg, At, ct, rfl, hg, ht⟩ := hr.form
  have n1 := hF.n1
  have l2 := hF.l2
  have hml := things_len sl
  have hblk := heap_alloc_new w (.cells #[.int .i64 last, .slice Ag sl.length cg, .slice At (things sl).length ct] 54)
  have k0 : Keeps (fun _ => False) w (w.alloc (.cells #[.int .i64 last, .slice Ag sl.length cg, .slice At (things sl).length ct] 54)) := (Keeps.refl _ _).alloc _
  have z0 : w.heap.size + 1 = (w.alloc (.cells #[.int .i64 last, .slice Ag sl.length cg, .slice At (things sl).length ct] 54)).heap.size := by simp
  generalize hw0 : w.alloc (.cells #[.int .i64 last, .slice Ag sl.length cg, .slice At (things sl).length ct] 54) = w0 at *
  have HG := Lib.hid hg
  have HT := Lib.hid ht
  have Z0 := Lib.hid z0
  clear hg ht hr z0
  go_enter Try.func56, Try.ntmps56
  go_wp2_with fail
  clear hw0
  go_loopg [3, 4] (things sl).length (fun m u i wr => ∃ k : Nat, i = .int .i64 k ∧ k + m = (things sl).length ∧ Keeps (fun _ => False) w0 wr ∧ wr.ownsRow (w.heap.size + 1) 3 1 u (((things sl).take k).map (handleOf sl)).length (ints (((things sl).take k).map (handleOf sl))))
  case atStart => exact ⟨0, rfl, by omega, Keeps.refl _ _, World.ownsRow_nil _ _ _ _⟩
  case round =>
    obtain ⟨k, rfl, hkm, kw, hown⟩ := hrel
    have HKM := Lib.hid hkm
    have hkl : k ≤ (things sl).length := by omega
    clear hkm
    have hb := kw.blk hblk (fun x => x)
    have c0 : wr.cell? ⟨w.heap.size, 0, none⟩ = some _ := (blkcell hb 0).trans rfl
    have c1 : wr.cell? ⟨w.heap.size, 1, none⟩ = some _ := (blkcell hb 1).trans rfl
    have c2 : wr.cell? ⟨w.heap.size, 2, none⟩ = some _ := (blkcell hb 2).trans rfl
    have hsz := kw.size
    obtain ⟨A, c, rfl⟩ := own_slice' hown
    by_cases hk : k < (things sl).length
    · have hk' : (k : Int) < (things sl).length := by omega
      have hsucc := handles_take hk
      have hmem : (things sl).getD k (0, 0) ∈ things sl := by rw [List.getD, List.getElem?_eq_getElem hk]; exact List.getElem_mem hk
      obtain ⟨i, hi, hil, hge⟩ := thing_slot (fun i hi hu => (hF.gen i hi).2.2 hu) _ hmem
      have hge2 := (hF.gen i hil).2.1
      rw [hi, Int.toNat_natCast] at hsucc
      have hll : (((things sl).take k).map (handleOf sl)).length ≤ 30 := by simp; omega
      obtain ⟨b, o, hAt, hb, hct⟩ : ∃ b o, At = some ⟨b, o, none⟩ ∧ b < w.heap.size ∧ w.cell? ⟨b, o + k * 2, none⟩ = some (.int .i64 i) := by
        obtain ⟨_, _, _, hv, _, hc⟩ := HT.out.at_T
        injection hv with hv1 hv2 hv3
        subst hv1
        obtain ⟨b, o, e, hb, hc⟩ := hc (by omega)
        have := (hc k hk).1
        rw [hi] at this
        exact ⟨b, o, e, hb, this⟩
      obtain ⟨b', o', hAg, hb', hcg⟩ : ∃ b o, Ag = some ⟨b, o, none⟩ ∧ b < w.heap.size ∧ w.cell? ⟨b, o + i, none⟩ = some (.int .i64 (sAt sl i).gen) := by
        obtain ⟨_, _, _, hv, _, hc⟩ := HG.out.at_int
        injection hv with hv1 hv2 hv3
        subst hv1
        obtain ⟨b, o, e, hc⟩ := hc (by omega)
        have := hc i hil
        rw [gens_at hil] at this
        exact ⟨b, o, e, cell_below this, this⟩
      have HA1 := Lib.hid hAt
      have HA2 := Lib.hid hAg
      rw [hAt] at c2
      rw [hAg] at c1
      have hct' := ((k0.trans' kw).cell (p := ⟨b, o + k * 2, none⟩) hb (fun x => x)).trans hct
      have hcg' := ((k0.trans' kw).cell (p := ⟨b', o' + i, none⟩) hb' (fun x => x)).trans hcg
      clear hct hcg hAt hAg hmem hi
      have HSU := Lib.hid hsucc
      clear hsucc
      generalize (sAt sl i).gen = ge at *
      generalize ((things sl).take k).map (handleOf sl) = acc at *
      go_wp2_with fail
      refine (rd_make (i : Int) ge _ (by omega) (by omega) hge (by omega)).mono ?_
      rintro e w' ⟨rfl, rfl⟩
      go_wp2_with (at_builtin; go_loud (refine wpList_append_rds _ rfl _ _ 28 rfl (w.heap.size + 1) 3 (.int .i64 0) 1 8 Try.underlying28 Try.info3h rfl (by decide) _ _ _ rfl (hown.alloc _) _ _ 1 [.int .i64 (ge * 4096 + i)] rfl (rds_one' _ _ _) ?c1 ?c2 ?c3 ?c4 ?_))
      case c1 => intro u hu; simp at hu; subst hu; rfl
      case c2 => unfold maxLen; omega
      case c3 => omega
      case c4 => have := Z0.out; simp; omega
      intro A1 p1 w1 hown1 hgrow1 hat1
      have hk1 : Keeps (fun _ => False) w0 w1 := (kw.alloc _).grown hgrow1 (fun j hj hjlt => by have := (hown.lt j hj).1; have := Z0.out; omega)
      go_wp2_with fail
      have hkm := HKM.out
      go_roundg (gk - 1)
      case measure => omega
      case rel => exact ⟨k + 1, by go_num, by omega, hk1, by rw [HSU.out]; simpa using hown1⟩
    · have e : k = (things sl).length := by omega
      subst e
      have h5 := (Rds.own hown).mono (ok' := fun b => w.heap.size ≤ b) (fun b hb _ => Nat.le_of_succ_le hb)
      go_wp2_with fail
      go_ret
      refine ⟨.slice A (((things sl).take (things sl).length).map (handleOf sl)).length c, rfl, ?_, k0.trans' kw⟩
      simp only [List.take_length] at h5 ⊢
      exact h5

theorem rt_new_bad (r l : Int) (w : World) (h : r < 1 ∨ 4096 < r ∨ l < 1 ∨ 65535 < l) :
    Calls Try.prog 23 #[.int .i64 r, .int .i64 l] w fun e w' => e = .returned (.tuple #[.agg #[.int .i64 0, .slice none 0 0, .slice none 0 0], .int .i64 1]) ∧ Keeps (fun _ => False) w w' := by
  have fin : ∀ W, Keeps (fun _ => False) w W → Keeps (fun _ => False) w W := fun _ h => h
  by_cases h1 : r < 1
  · go_enter Try.func23, Try.ntmps23
    go_wp2
    exact bodyPost_ret (v := .tuple #[.agg #[.int .i64 0, .slice none 0 0, .slice none 0 0], .int .i64 1]) (by simp [results, Try.results23, go_sem]) rfl ⟨rfl, by repeat (first | exact (Keeps.refl _ _).alloc _ | refine Keeps.setCell ?_ (.inr (Nat.le_refl _)) _)⟩
  · by_cases h2 : 4096 < r
    · go_enter Try.func23, Try.ntmps23
      go_wp2
      exact bodyPost_ret (v := .tuple #[.agg #[.int .i64 0, .slice none 0 0, .slice none 0 0], .int .i64 1]) (by simp [results, Try.results23, go_sem]) rfl ⟨rfl, by repeat (first | exact (Keeps.refl _ _).alloc _ | refine Keeps.setCell ?_ (.inr (Nat.le_refl _)) _)⟩
    · by_cases h3 : l < 1
      · go_enter Try.func23, Try.ntmps23
        go_wp2
        exact bodyPost_ret (v := .tuple #[.agg #[.int .i64 0, .slice none 0 0, .slice none 0 0], .int .i64 1]) (by simp [results, Try.results23, go_sem]) rfl ⟨rfl, by repeat (first | exact (Keeps.refl _ _).alloc _ | refine Keeps.setCell ?_ (.inr (Nat.le_refl _)) _)⟩
      · have h4 : 65535 < l := by omega
        go_enter Try.func23, Try.ntmps23
        go_wp2
        exact bodyPost_ret (v := .tuple #[.agg #[.int .i64 0, .slice none 0 0, .slice none 0 0], .int .i64 1]) (by simp [results, Try.results23, go_sem]) rfl ⟨rfl, by repeat (first | exact (Keeps.refl _ _).alloc _ | refine Keeps.setCell ?_ (.inr (Nat.le_refl _)) _)⟩

set_option maxHeartbeats 800000 in
theorem rt_new (n : Nat) (l : Int) (w : World) (h1 : 0 < n) (h2 : n ≤ 30) (h3 : 1 ≤ l) (h4 : l ≤ 65535) :
    Calls Try.prog 23 #[.int .i64 n, .int .i64 l] w fun e w' => e = .returned (.tuple #[.agg #[.int .i64 l, .slice (some ⟨w.heap.size + 1, 0, none⟩) n n, .slice none 0 0], .int .i64 0]) ∧ RT (fun b => w.heap.size ≤ b) w' (.agg #[.int .i64 l, .slice (some ⟨w.heap.size + 1, 0, none⟩) n n, .slice none 0 0]) l (List.replicate n s0) ∧ Keeps (fun _ => False) w w' := by
  have hn1 : ¬ ((n : Int) < 1) := by omega
  have hn2 : ¬ (4096 < (n : Int)) := by omega
  have hl1 : ¬ (l < 1) := by omega
  have hl2 : ¬ (65535 < l) := by omega
  have hmk := run_make_row' (P := Try.prog) 28 3 (.int .i64 0) 8 Try.underlying28 Try.info3h rfl .i64 .i64 n (by omega) (by omega)
  have ecs : madeCells #[Value.int .i64 0] n = ((List.replicate n (0 : Int)).map (Value.int .i64)).toArray := by
    apply Array.ext'
    simp [madeCells]
    apply List.ext_getElem
    · simp
    · intro i h1 h2; simp [Nat.mod_one]
  rw [ecs] at hmk
  clear ecs
  go_enter Try.func23, Try.ntmps23
  go_wp2
  have ht0 : things (List.replicate n s0) = [] := things_start n 0
  have hb := heap_alloc_new (w.alloc (.cells #[.int .i64 l, .slice (some ⟨w.heap.size + 1, 0, none⟩) n n, .slice none 0 0] 54)) (.cells (Array.replicate n (Value.int .i64 0)) 3)
  rw [World.size_alloc] at hb
  refine bodyPost_ret (v := .tuple #[.agg #[.int .i64 l, .slice (some ⟨w.heap.size + 1, 0, none⟩) n n, .slice none 0 0], .int .i64 0]) (by simp [results, Try.results23, go_sem]) rfl ⟨rfl, ⟨_, _, rfl, ?_, ?_⟩, ((Keeps.refl _ _).alloc _).alloc _⟩
  · rw [List.length_replicate]
    refine ⟨by simp [gens], _, n, rfl, Nat.le_refl _, .inr ⟨_, 0, rfl, Nat.le_succ _, by simp, fun j u hu => ?_⟩⟩
    rw [blkcell hb, Nat.zero_add]
    simp only [gens, ints, List.map_replicate, List.getElem?_replicate] at hu
    rw [Array.getElem?_replicate]
    split at hu
    · rename_i hj
      rw [if_pos hj, ← hu]; rfl
    · cases hu
  · rw [ht0]; exact Rds.nil_ _ _ _ _ _
end Go.Proofs.Ytlfccifibhcacaa

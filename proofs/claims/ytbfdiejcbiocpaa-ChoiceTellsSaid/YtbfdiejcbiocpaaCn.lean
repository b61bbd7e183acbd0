/- ChoiceTells: the walk. -/
import Derived.Test.YtbfdiejcbiocpaaCx
import Derived.Deep.RegionHeld3
namespace Go.Proofs.Ytbfdiejcbiocpaa
open Go.RowKit Go.Shelf
set_option linter.unusedVariables false
set_option linter.unusedSimpArgs false

set_option maxHeartbeats 4000000 in
set_option maxRecDepth 100000 in
theorem l_tells (v : Value) (cs : List Ch) (ok : Nat → Prop) (c : Ch) (w : World) (h : Rds ok w v 3 cs.length (flatC cs)) (hbig : cs.length * 24 ≤ 140737488351232) :
    Calls Try.prog 3 #[v, chV c] w fun e w' => e = .returned (.bool true) ∧ Keeps (fun _ => False) w w' := by
  obtain ⟨A, cp, rfl⟩ := h.slice_
  have k0 : Keeps (fun _ => False) w (w.alloc (.cells #[.int .i64 c.k, .int .i64 c.v, .int .i64 c.w] 24)) := (Keeps.refl _ _).alloc _
  have hblk := heap_alloc_new w (.cells #[.int .i64 c.k, .int .i64 c.v, .int .i64 c.w] 24)
  have h0 := h.keeps k0 (fun _ _ _ x => x)
  have HH := Lib.hid h0
  clear h h0
  by_cases hmid : 100 < cs.length ∧ cs.length ≤ 2000
  · have h1 : (100 : Int) < cs.length := by omega
    have h2 : (cs.length : Int) ≤ 2000 := by omega
    clear hmid
    go_enter Try.func3, Try.ntmps3
    go_wp2_with fail
    refine (p_alive _).mono ?_
    rintro e w1 ⟨rfl, k1⟩
    go_wp2_with fail
    go_ret
    exact ⟨rfl, k0.trans' k1⟩
  · by_cases h1 : 100 < cs.length
    · have h1' : (100 : Int) < cs.length := by omega
      have h2' : ¬ (cs.length : Int) ≤ 2000 := by omega
      clear hmid h1
      go_enter Try.func3, Try.ntmps3
      go_wp2_with fail
      generalize (w.alloc (.cells #[.int .i64 c.k, .int .i64 c.v, .int .i64 c.w] 24)) = w0 at *
      refine (to_pBig _ cs _ _ HH.out hbig).mono ?_
      rintro e w1 ⟨u, rfl, hu, k1⟩
      have HU := Lib.hid hu
      clear hu
      go_wp2_with fail
      refine (p_all u cs _ _ HU.out).mono ?_
      rintro e w2 ⟨rfl, k2⟩
      go_wp2_with fail
      have k02 := k1.trans' k2
      refine (r_all _ cs _ _ (HH.out.keeps k02 (fun _ _ _ x => x))).mono ?_
      rintro e w3 ⟨rfl, k3⟩
      generalize allI cs = I at *
      generalize allE cs = E at *
      go_wp2_with fail
      have k03 := k02.trans' k3
      have hblk3 := k03.blk hblk (fun x => x)
      have kw3 := k0.trans' k03
      have HH3 := Lib.hid (HH.out.keeps k03 (fun _ _ _ x => x))
      have hS : ∀ W, Keeps (fun _ => False) w3 W → W.cell? ⟨w.heap.size, 0, none⟩ = some (.int .i64 c.k) ∧ W.cell? ⟨w.heap.size, 1, none⟩ = some (.int .i64 c.v) ∧ W.cell? ⟨w.heap.size, 2, none⟩ = some (.int .i64 c.w) := fun W k =>
        ⟨(blkcell (k.blk hblk3 (fun x => x)) 0).trans rfl, (blkcell (k.blk hblk3 (fun x => x)) 1).trans rfl, (blkcell (k.blk hblk3 (fun x => x)) 2).trans rfl⟩
      have h8 : ∀ W, Keeps (fun _ => False) w3 W → Calls Try.prog 8 #[.slice A cs.length cp] W fun e w' => ∃ u, e = .returned u ∧ Rds (fun b => W.heap.size ≤ b) w' u 3 cs.length (flatC cs) ∧ Keeps (fun _ => False) W w' := fun W k => to_pBig _ cs _ _ (HH3.out.keeps k (fun _ _ _ x => x)) hbig
      have h11 : ∀ W, Keeps (fun _ => False) w3 W → Calls Try.prog 11 #[.slice A cs.length cp] W fun e w' => e = .returned (.string ⟨(bytesC cs).toArray⟩) ∧ Keeps (fun _ => False) W w' := fun W k => r_bytes _ cs _ _ (HH3.out.keeps k (fun _ _ _ x => x))
      have h10 : ∀ (a : World) (u : Value), Rds (fun _ => True) a u 3 cs.length (flatC cs) → ∀ W, Keeps (fun _ => False) a W → Calls Try.prog 10 #[u] W fun e w' => e = .returned (.string ⟨(bytesC cs).toArray⟩) ∧ Keeps (fun _ => False) W w' := fun a u hu W k => p_bytes _ cs _ _ (hu.keeps k (fun _ _ _ x => x))
      generalize (⟨(bytesC cs).toArray⟩ : ByteArray) = bs at *
      have h12 : ∀ W, Calls Try.prog 12 #[.agg #[.int .i64 c.k, .int .i64 c.v, .int .i64 c.w]] W fun e w' => e = .returned (.int .i64 (chk c)) ∧ Keeps (fun _ => False) W w' := fun W => p_check c W
      have h13 : ∀ W, Calls Try.prog 13 #[.agg #[.int .i64 c.k, .int .i64 c.v, .int .i64 c.w]] W fun e w' => e = .returned (.int .i64 (chk c)) ∧ Keeps (fun _ => False) W w' := fun W => r_check c W
      generalize chk c = ck at *
      have H8 := Lib.hid h8
      have H10 := Lib.hid h10
      have H11 := Lib.hid h11
      have H12 := Lib.hid h12
      have H13 := Lib.hid h13
      have HS := Lib.hid hS
      clear h8 h10 h11 h12 h13 hS k1 k2 k3 k02 k03 HU HH hblk k0 hblk3
      go_region_held3 (fun W => W.cell? ⟨w.heap.size, 0, none⟩ = some (.int .i64 c.k) ∧ W.cell? ⟨w.heap.size, 1, none⟩ = some (.int .i64 c.v) ∧ W.cell? ⟨w.heap.size, 2, none⟩ = some (.int .i64 c.w)) (exact HS.out _ (by repeat (first | exact Keeps.refl _ _ | (with_reducible assumption) | apply Keeps.drew | apply Keeps.drewN | (refine Keeps.trans' ?_ (by with_reducible assumption))))) ((first
        | (go_at_call 8; refine (H8.out _ (by repeat (first | exact Keeps.refl _ _ | (with_reducible assumption) | apply Keeps.drew | apply Keeps.drewN | (refine Keeps.trans' ?_ (by with_reducible assumption))))).mono ?_; rintro e w8 ⟨u8, rfl, hu8, k8⟩; replace hu8 := hu8.mono (fun _ _ _ => trivial))
        | (go_at_call 10; refine (H10.out _ _ hu8 _ (by repeat (first | exact Keeps.refl _ _ | (with_reducible assumption) | apply Keeps.drew | apply Keeps.drewN | (refine Keeps.trans' ?_ (by with_reducible assumption))))).mono ?_; rintro e w10 ⟨rfl, k10⟩)
        | (go_at_call 11; refine (H11.out _ (by repeat (first | exact Keeps.refl _ _ | (with_reducible assumption) | apply Keeps.drew | apply Keeps.drewN | (refine Keeps.trans' ?_ (by with_reducible assumption))))).mono ?_; rintro e w11 ⟨rfl, k11⟩)
        | (go_at_call 12; refine (H12.out _).mono ?_; rintro e w12 ⟨rfl, k12⟩)
        | (go_at_call 13; refine (H13.out _).mono ?_; rintro e w13 ⟨rfl, k13⟩)
        | (go_at_call 6; refine (p_alive _).mono ?_; rintro e w6 ⟨rfl, k6⟩)))
      all_goals
        go_wp2_with fail
        go_ret
        exact ⟨rfl, kw3.trans' (by repeat (first | exact Keeps.refl _ _ | (with_reducible assumption) | apply Keeps.drew | apply Keeps.drewN | (refine Keeps.trans' ?_ (by with_reducible assumption))))⟩
    · have h1' : decide ((100 : Int) < cs.length) = false := by simp; omega
      clear hmid h1
      go_enter Try.func3, Try.ntmps3
      go_wp2_with fail
      generalize (w.alloc (.cells #[.int .i64 c.k, .int .i64 c.v, .int .i64 c.w] 24)) = w0 at *
      refine (to_pBig _ cs _ _ HH.out hbig).mono ?_
      rintro e w1 ⟨u, rfl, hu, k1⟩
      have HU := Lib.hid hu
      clear hu
      go_wp2_with fail
      refine (p_all u cs _ _ HU.out).mono ?_
      rintro e w2 ⟨rfl, k2⟩
      go_wp2_with fail
      have k02 := k1.trans' k2
      refine (r_all _ cs _ _ (HH.out.keeps k02 (fun _ _ _ x => x))).mono ?_
      rintro e w3 ⟨rfl, k3⟩
      generalize allI cs = I at *
      generalize allE cs = E at *
      go_wp2_with fail
      have k03 := k02.trans' k3
      have hblk3 := k03.blk hblk (fun x => x)
      have kw3 := k0.trans' k03
      have HH3 := Lib.hid (HH.out.keeps k03 (fun _ _ _ x => x))
      have hS : ∀ W, Keeps (fun _ => False) w3 W → W.cell? ⟨w.heap.size, 0, none⟩ = some (.int .i64 c.k) ∧ W.cell? ⟨w.heap.size, 1, none⟩ = some (.int .i64 c.v) ∧ W.cell? ⟨w.heap.size, 2, none⟩ = some (.int .i64 c.w) := fun W k =>
        ⟨(blkcell (k.blk hblk3 (fun x => x)) 0).trans rfl, (blkcell (k.blk hblk3 (fun x => x)) 1).trans rfl, (blkcell (k.blk hblk3 (fun x => x)) 2).trans rfl⟩
      have h8 : ∀ W, Keeps (fun _ => False) w3 W → Calls Try.prog 8 #[.slice A cs.length cp] W fun e w' => ∃ u, e = .returned u ∧ Rds (fun b => W.heap.size ≤ b) w' u 3 cs.length (flatC cs) ∧ Keeps (fun _ => False) W w' := fun W k => to_pBig _ cs _ _ (HH3.out.keeps k (fun _ _ _ x => x)) hbig
      have h11 : ∀ W, Keeps (fun _ => False) w3 W → Calls Try.prog 11 #[.slice A cs.length cp] W fun e w' => e = .returned (.string ⟨(bytesC cs).toArray⟩) ∧ Keeps (fun _ => False) W w' := fun W k => r_bytes _ cs _ _ (HH3.out.keeps k (fun _ _ _ x => x))
      have h10 : ∀ (a : World) (u : Value), Rds (fun _ => True) a u 3 cs.length (flatC cs) → ∀ W, Keeps (fun _ => False) a W → Calls Try.prog 10 #[u] W fun e w' => e = .returned (.string ⟨(bytesC cs).toArray⟩) ∧ Keeps (fun _ => False) W w' := fun a u hu W k => p_bytes _ cs _ _ (hu.keeps k (fun _ _ _ x => x))
      generalize (⟨(bytesC cs).toArray⟩ : ByteArray) = bs at *
      have h12 : ∀ W, Calls Try.prog 12 #[.agg #[.int .i64 c.k, .int .i64 c.v, .int .i64 c.w]] W fun e w' => e = .returned (.int .i64 (chk c)) ∧ Keeps (fun _ => False) W w' := fun W => p_check c W
      have h13 : ∀ W, Calls Try.prog 13 #[.agg #[.int .i64 c.k, .int .i64 c.v, .int .i64 c.w]] W fun e w' => e = .returned (.int .i64 (chk c)) ∧ Keeps (fun _ => False) W w' := fun W => r_check c W
      generalize chk c = ck at *
      have H8 := Lib.hid h8
      have H10 := Lib.hid h10
      have H11 := Lib.hid h11
      have H12 := Lib.hid h12
      have H13 := Lib.hid h13
      have HS := Lib.hid hS
      clear h8 h10 h11 h12 h13 hS k1 k2 k3 k02 k03 HU HH hblk k0 hblk3
      go_region_held3 (fun W => W.cell? ⟨w.heap.size, 0, none⟩ = some (.int .i64 c.k) ∧ W.cell? ⟨w.heap.size, 1, none⟩ = some (.int .i64 c.v) ∧ W.cell? ⟨w.heap.size, 2, none⟩ = some (.int .i64 c.w)) (exact HS.out _ (by repeat (first | exact Keeps.refl _ _ | (with_reducible assumption) | apply Keeps.drew | apply Keeps.drewN | (refine Keeps.trans' ?_ (by with_reducible assumption))))) ((first
        | (go_at_call 8; refine (H8.out _ (by repeat (first | exact Keeps.refl _ _ | (with_reducible assumption) | apply Keeps.drew | apply Keeps.drewN | (refine Keeps.trans' ?_ (by with_reducible assumption))))).mono ?_; rintro e w8 ⟨u8, rfl, hu8, k8⟩; replace hu8 := hu8.mono (fun _ _ _ => trivial))
        | (go_at_call 10; refine (H10.out _ _ hu8 _ (by repeat (first | exact Keeps.refl _ _ | (with_reducible assumption) | apply Keeps.drew | apply Keeps.drewN | (refine Keeps.trans' ?_ (by with_reducible assumption))))).mono ?_; rintro e w10 ⟨rfl, k10⟩)
        | (go_at_call 11; refine (H11.out _ (by repeat (first | exact Keeps.refl _ _ | (with_reducible assumption) | apply Keeps.drew | apply Keeps.drewN | (refine Keeps.trans' ?_ (by with_reducible assumption))))).mono ?_; rintro e w11 ⟨rfl, k11⟩)
        | (go_at_call 12; refine (H12.out _).mono ?_; rintro e w12 ⟨rfl, k12⟩)
        | (go_at_call 13; refine (H13.out _).mono ?_; rintro e w13 ⟨rfl, k13⟩)
        | (go_at_call 6; refine (p_alive _).mono ?_; rintro e w6 ⟨rfl, k6⟩)))
      all_goals
        go_wp2_with fail
        go_ret
        exact ⟨rfl, kw3.trans' (by repeat (first | exact Keeps.refl _ _ | (with_reducible assumption) | apply Keeps.drew | apply Keeps.drewN | (refine Keeps.trans' ?_ (by with_reducible assumption))))⟩
end Go.Proofs.Ytbfdiejcbiocpaa

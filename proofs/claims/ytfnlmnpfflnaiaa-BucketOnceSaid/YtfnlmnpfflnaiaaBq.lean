/- BucketOnce, the walk: who falls is flushed once, in order. -/
import Derived.Test.YtfnlmnpfflnaiaaBo
import Derived.Test.YtfnlmnpfflnaiaaBd
import Derived.Deep.LoopGhost
namespace Go.Proofs.Ytfnlmnpfflnaiaa
open Go.RowKit
set_option linter.unusedVariables false
set_option linter.unusedSimpArgs false

/-- A slice of triples of small numbers, that came in. -/
def IsTris (w : World) (A : Option Addr) (len : Nat) (d0 d1 d2 : Nat → Nat) : Prop :=
  0 < len → ∃ b o, A = some ⟨b, o, none⟩ ∧ b < w.heap.size ∧ ∀ i, i < len → w.cell? ⟨b, o + i * 3, none⟩ = some (.int .u8 (d0 i)) ∧ w.cell? ⟨b, o + i * 3 + 1, none⟩ = some (.int .u8 (d1 i)) ∧ w.cell? ⟨b, o + i * 3 + 2, none⟩ = some (.int .u8 (d2 i)) ∧ d0 i < 256 ∧ d1 i < 256 ∧ d2 i < 256

/-- What holds between two rounds. -/
structure InvO (w wr : World) (T g N L a b : Nat) (bs : List (List Int)) (ta tb : List Int) : Prop where
  tab : HoldsB wr T g N L bs
  A : wr.heap[a]? = some (.cells (ints ta).toArray 49 (0, 0))
  B : wr.heap[b]? = some (.cells (ints tb).toArray 49 (0, 0))
  kept : Keeps (fun _ => False) w wr
  hg : w.heap.size ≤ g
  hN : w.heap.size ≤ N
  hL : w.heap.size ≤ L
  ha : w.heap.size ≤ a
  hb : w.heap.size ≤ b
  aT : T ≠ a
  bT : T ≠ b
  aP : ¬ PB g N L a
  bP : ¬ PB g N L b
  ab : a ≠ b

namespace InvO
variable {w wr w' : World} {T g N L a b : Nat} {bs bs' : List (List Int)} {ta tb : List Int}
theorem still (h : InvO w wr T g N L a b bs ta tb) (hk : Keeps (fun _ => False) wr w') : InvO w w' T g N L a b bs ta tb :=
  ⟨h.tab.still hk, hk.blk h.A (fun x => x), hk.blk h.B (fun x => x), h.kept.trans' hk, h.hg, h.hN, h.hL, h.ha, h.hb, h.aT, h.bT, h.aP, h.bP, h.ab⟩
theorem PBlow (h : InvO w wr T g N L a b bs ta tb) {k : Nat} (hk : PB g N L k) : w.heap.size ≤ k := by
  rcases hk with rfl | rfl | rfl; exact h.hg; exact h.hN; exact h.hL
theorem table (h : InvO w wr T g N L a b bs ta tb) (ht : HoldsB w' T g N L bs') (hk : Keeps (PB g N L) wr w') : InvO w w' T g N L a b bs' ta tb :=
  ⟨ht, hk.blk h.A h.aP, hk.blk h.B h.bP, h.kept.trans hk (fun k hk hp => absurd (h.PBlow hp) (by omega)), h.hg, h.hN, h.hL, h.ha, h.hb, h.aT, h.bT, h.aP, h.bP, h.ab⟩
theorem setA (h : InvO w wr T g N L a b bs ta tb) (p : Nat) (x : Int) : InvO w (wr.setCell ⟨a, p, none⟩ (.int .i64 x)) T g N L a b bs (ta.set p x) tb := by
  have k1 : Keeps (fun k => k = a) wr (wr.setCell ⟨a, p, none⟩ (.int .i64 x)) := (Keeps.refl (fun k => k = a) wr).setCell (.inl rfl) _
  have ha := h.ha
  refine ⟨h.tab.keeps k1 h.aT (fun e => h.aP (.inl e.symm)) (fun e => h.aP (.inr (.inl e.symm))) (fun e => h.aP (.inr (.inr e.symm))), ?_, k1.blk h.B (fun e => h.ab e.symm), h.kept.setCell (p := ⟨a, p, none⟩) (.inr ha) _, h.hg, h.hN, h.hL, h.ha, h.hb, h.aT, h.bT, h.aP, h.bP, h.ab⟩
  rw [blkset h.A]; simp [ints, List.map_set]
theorem setB (h : InvO w wr T g N L a b bs ta tb) (p : Nat) (x : Int) : InvO w (wr.setCell ⟨b, p, none⟩ (.int .i64 x)) T g N L a b bs ta (tb.set p x) := by
  have k1 : Keeps (fun k => k = b) wr (wr.setCell ⟨b, p, none⟩ (.int .i64 x)) := (Keeps.refl (fun k => k = b) wr).setCell (.inl rfl) _
  have hb := h.hb
  refine ⟨h.tab.keeps k1 h.bT (fun e => h.bP (.inl e.symm)) (fun e => h.bP (.inr (.inl e.symm))) (fun e => h.bP (.inr (.inr e.symm))), k1.blk h.A (fun e => h.ab e), ?_, h.kept.setCell (p := ⟨b, p, none⟩) (.inr hb) _, h.hg, h.hN, h.hL, h.ha, h.hb, h.aT, h.bT, h.aP, h.bP, h.ab⟩
  rw [blkset h.B]; simp [ints, List.map_set]
theorem cA (h : InvO w wr T g N L a b bs ta tb) {p : Nat} (hp : p < ta.length) : wr.cell? ⟨a, p, none⟩ = some (.int .i64 (ta.getD p 0)) := by
  rw [blkcell h.A p]; simp [ints, hp, List.getD]
theorem cB (h : InvO w wr T g N L a b bs ta tb) {p : Nat} (hp : p < tb.length) : wr.cell? ⟨b, p, none⟩ = some (.int .i64 (tb.getD p 0)) := by
  rw [blkcell h.B p]; simp [ints, hp, List.getD]
end InvO

theorem tmod_u8 (d m : Nat) : (d : Int).tmod m = ((d % m : Nat) : Int) := by rw [Int.tmod_eq_emod_of_nonneg (by omega)]; simp

set_option maxHeartbeats 1000000 in
theorem once_long (A : Option Addr) (len cap : Nat) (w : World) (h : 80 < len) :
    Calls Try.prog 4 #[.slice A len cap] w fun e w' => e = .returned (.bool true) ∧ Keeps (fun _ => False) w w' := by
  have h' : (80 : Int) < len := by omega
  go_enter Try.func4, Try.ntmps4
  go_wp2_with fail
  refine (b_new 4 _ (by omega)).mono ?_
  rintro e w1 ⟨T, g, N, L, rfl, hT, hg, hN, hL, h1, k1⟩
  go_wp2_with fail
  refine (law24_alive _).mono ?_
  rintro e w4 ⟨rfl, k4⟩
  go_wp2
  go_ret
  exact ⟨rfl, k1.trans' k4⟩

set_option maxHeartbeats 4000000 in
set_option maxRecDepth 100000 in
theorem once_walk (A : Option Addr) (len cap : Nat) (d0 d1 d2 : Nat → Nat) (w : World) (hlen : len ≤ 80) (hA : IsTris w A len d0 d1 d2) :
    Calls Try.prog 4 #[.slice A len cap] w fun e w' => e = .returned (.bool true) ∧ Keeps (fun _ => False) w w' := by
  have h' : ¬ (80 : Int) < len := by omega
  have h'' : ¬ 80 < len := by omega
  go_enter Try.func4, Try.ntmps4
  go_wp2_with fail
  refine (b_new 4 _ (by omega)).mono ?_
  rintro e w1 ⟨T, g, N, L, rfl, hT, hg, hN, hL, h1, k1⟩
  replace h1 : HoldsB w1 T g N L [[], [], [], []] := h1
  go_wp2_with fail
  have hI : InvO w ((w1.alloc (.cells (ints (List.replicate 16 0)).toArray 49)).alloc (.cells (ints (List.replicate 16 0)).toArray 49)) T g N L w1.heap.size (w1.heap.size + 1) [[], [], [], []] (List.replicate 16 0) (List.replicate 16 0) := by
    have l1 := h1.pool.lt
    have lT := blklt h1.box
    have z1 := k1.size
    have kk : Keeps (fun _ => False) w1 ((w1.alloc (.cells (ints (List.replicate 16 0)).toArray 49)).alloc (.cells (ints (List.replicate 16 0)).toArray 49)) := ((Keeps.refl _ _).alloc _).alloc _
    refine ⟨h1.still kk, blkalloc (heap_alloc_new _ _) _, ?_, k1.trans' kk, hg, hN, hL, z1, by omega, by omega, by omega, ?_, ?_, by omega⟩
    · have := heap_alloc_new (w1.alloc (.cells (ints (List.replicate 16 0)).toArray 49)) (.cells (ints (List.replicate 16 0)).toArray 49)
      rwa [World.size_alloc] at this
    · rintro (h | h | h) <;> omega
    · rintro (h | h | h) <;> omega
  have hO := Once.start
  have hzs : (ints (List.replicate 16 0)).toArray = #[.int .i64 0, .int .i64 0, .int .i64 0, .int .i64 0, .int .i64 0, .int .i64 0, .int .i64 0, .int .i64 0, .int .i64 0, .int .i64 0, .int .i64 0, .int .i64 0, .int .i64 0, .int .i64 0, .int .i64 0, .int .i64 0] := rfl
  rw [hzs] at hI
  clear hzs
  generalize (List.replicate 16 (0 : Int)) = ta0 at *
  clear h1 k1 hT hg hN hL
  generalize (w1.alloc (.cells #[.int .i64 0, .int .i64 0, .int .i64 0, .int .i64 0, .int .i64 0, .int .i64 0, .int .i64 0, .int .i64 0, .int .i64 0, .int .i64 0, .int .i64 0, .int .i64 0, .int .i64 0, .int .i64 0, .int .i64 0, .int .i64 0] 49)).alloc (.cells #[.int .i64 0, .int .i64 0, .int .i64 0, .int .i64 0, .int .i64 0, .int .i64 0, .int .i64 0, .int .i64 0, .int .i64 0, .int .i64 0, .int .i64 0, .int .i64 0, .int .i64 0, .int .i64 0, .int .i64 0, .int .i64 0] 49) = w2 at *
  generalize w1.heap.size + 1 = b at *
  generalize w1.heap.size = a at *
  go_loopg [40] len (fun m i wr => ∃ (k : Nat) (bs : List (List Int)) (ta tb : List Int), i = .int .i64 k ∧ k + m = len ∧ Once k bs ta tb ∧ InvO w wr T g N L a b bs ta tb)
  case atStart => exact ⟨0, _, ta0, ta0, rfl, by omega, hO, hI⟩
  case round =>
    clear hI hO
    obtain ⟨k, bs, ta, tb, rfl, hkm, hO, hI⟩ := hrel
    have HKM := Lib.hid hkm
    have hkl : k ≤ len := by omega
    clear hkm
    obtain ⟨gq, rfl⟩ : ∃ gq : Nat, gq = gk := ⟨_, rfl⟩
    by_cases hk : k < len
    · have hk' : (k : Int) < len := by omega
      obtain ⟨bb, o, rfl, hb, hx⟩ := hA (by omega)
      obtain ⟨hx0, hx1, hx2, hd0, hd1, hd2⟩ := hx k hk
      clear hx hA
      have hx0' := (hI.kept.cell (p := ⟨bb, o + k * 3, none⟩) hb (fun x => x)).trans hx0
      have hx1' := (hI.kept.cell (p := ⟨bb, o + k * 3 + 1, none⟩) hb (fun x => x)).trans hx1
      have hx2' := (hI.kept.cell (p := ⟨bb, o + k * 3 + 2, none⟩) hb (fun x => x)).trans hx2
      clear hx0 hx1 hx2
      generalize d0 k = e0 at *
      generalize d1 k = e1 at *
      generalize d2 k = e2 at *
      have hS := heap_alloc_new wr (.cells #[.int .u8 e0, .int .u8 e1, .int .u8 e2] 50)
      have hIS := hI.still ((Keeps.refl (fun _ => False) wr).alloc (.cells #[.int .u8 e0, .int .u8 e1, .int .u8 e2] 50))
      have cS0 : (wr.alloc (.cells #[.int .u8 e0, .int .u8 e1, .int .u8 e2] 50)).cell? ⟨wr.heap.size, 0, none⟩ = some (.int .u8 e0) := (blkcell hS 0).trans rfl
      have cS1 : (wr.alloc (.cells #[.int .u8 e0, .int .u8 e1, .int .u8 e2] 50)).cell? ⟨wr.heap.size, 1, none⟩ = some (.int .u8 e1) := (blkcell hS 1).trans rfl
      have cS2 : (wr.alloc (.cells #[.int .u8 e0, .int .u8 e1, .int .u8 e2] 50)).cell? ⟨wr.heap.size, 2, none⟩ = some (.int .u8 e2) := (blkcell hS 2).trans rfl
      have hr3 : (0 : Int) < (e0 : Int) % 3 ∨ (e0 : Int) % 3 = 0 := by omega
      generalize hwa : wr.alloc (.cells #[.int .u8 e0, .int .u8 e1, .int .u8 e2] 50) = wa at *
      rcases hr3 with hr | hr
      · go_wp2_with fail
        clear hwa
        refine wp_qall (w0 := wa) ⟨0, rfl⟩ (by kernel_rfl) (by kernel_rfl) ?_
        repeat go_big_quiet_step (fail)
        refine wpQuiet_nil (fun nq => ?_)
        have hIq := hIS.still ((Keeps.refl (fun _ => False) _).drewN nq)
        go_wp2_with fail
        obtain ⟨z1, hz1⟩ : ∃ z1, z1 = (e1 : Int) % 4 := ⟨_, rfl⟩
        obtain ⟨z2, hz2⟩ : ∃ z2, z2 = (e2 : Int) % 16 := ⟨_, rfl⟩
        rw [← hz1, ← hz2]
        obtain ⟨q, rfl, hq⟩ : ∃ q : Nat, z1 = q ∧ q < 4 := ⟨z1.toNat, by omega, by omega⟩
        obtain ⟨p, rfl, hp⟩ : ∃ p : Nat, z2 = p ∧ p < 16 := ⟨z2.toNat, by omega, by omega⟩
        clear hz1 hz2 hx0' hx1' hx2' hI hS hIS cS0 cS1 cS2 hr
        refine (b_fall T g N L bs q p _ hIq.tab hO.good).mono ?_
        rintro e w5 ⟨rfl, h5, k5⟩
        have hI5 := hIq.table h5 k5
        have cA := hI5.cA (p := p) (by have := hO.la; omega)
        have cB := hI5.cB (p := p) (by have := hO.li; omega)
        have fA := blkfrozen hI5.A p
        have fB := blkfrozen hI5.B p
        by_cases h0 : ta.getD p 0 = 0
        · obtain ⟨e1', hO'⟩ := hO.fall_yes hq hp h0
          rw [e1']
          rw [h0] at cA
          have HI := (hI5.setA p (k + 1)).setB p q
          clear e1' h0
          have hab := hI5.ab
          have cB' : (w5.setCell ⟨a, p, none⟩ (.int .i64 (k + 1))).cell? ⟨b, p, none⟩ = some (.int .i64 (tb.getD p 0)) := (hI5.setA p (k + 1)).cB (p := p) (by have := hO.li; omega)
          generalize ta.getD p 0 = y at *
          generalize tb.getD p 0 = y' at *
          go_wp2_with fail
          have hkm := HKM.out
          go_roundg (gq - 1)
          case measure => omega
          case rel => exact ⟨k + 1, _, _, _, by go_num, by omega, hO', HI⟩
        · obtain ⟨e1', e2'⟩ := hO.fall_no hq hp h0
          rw [e1']
          rw [e2'] at hI5
          have hb0 : (ta.getD p 0 == 0) = false := by simpa using h0
          clear e1' e2' h0
          generalize ta.getD p 0 = y at *
          go_wp2_with fail
          have hkm := HKM.out
          go_roundg (gq - 1)
          case measure => omega
          case rel => exact ⟨k + 1, _, _, _, by go_num, by omega, hO.next, hI5⟩
      · have hr' : ¬ (0 : Int) < (e0 : Int) % 3 := by omega
        go_wp2_with fail
        clear hwa
        refine wp_qall (w0 := wa) ⟨0, rfl⟩ (by kernel_rfl) (by kernel_rfl) ?_
        repeat go_big_quiet_step (fail)
        refine wpQuiet_nil (fun nq => ?_)
        have hIq := hIS.still ((Keeps.refl (fun _ => False) _).drewN nq)
        go_wp2_with fail
        obtain ⟨z1, hz1⟩ : ∃ z1, z1 = (e1 : Int) % 4 := ⟨_, rfl⟩
        obtain ⟨z2, hz2⟩ : ∃ z2, z2 = (e2 : Int) % 16 := ⟨_, rfl⟩
        rw [← hz1, ← hz2]
        obtain ⟨q, rfl, hq⟩ : ∃ q : Nat, z1 = q ∧ q < 4 := ⟨z1.toNat, by omega, by omega⟩
        obtain ⟨p, rfl, hp⟩ : ∃ p : Nat, z2 = p ∧ p < 16 := ⟨z2.toNat, by omega, by omega⟩
        clear hz1 hz2 hx0' hx1' hx2' hI hS hIS cS0 cS1 cS2 hr hr'
        refine (b_flush T g N L bs q _ hIq.tab).mono ?_
        rintro e w5 ⟨v, rfl, hv, h5, k5⟩
        have hI5 := hIq.table h5 k5
        have haw : a < (wa.drewN nq).heap.size := blklt hIq.A
        rw [show flushE bs q = 0 by rw [flushE, if_pos (hO.is4 hq)]]
        have hlq : listQ bs (q : Int) = bs.getD q [] := by rw [listQ, if_pos (hO.is4 hq), qAt_nat]
        rw [hlq] at hv
        clear hlq
        have hO' := hO.flush hq
        have hF := fun j => @Once.flushed k bs ta tb hO q hq j
        have hN := fun r => @Once.none_left k bs ta tb hO q hq r
        have hla := fun l => zeros_len l ta
        have hl16 : ∀ l, (zeros ta l).length = 16 := fun l => (zeros_len l ta).trans hO.la
        have hlb := hO.li
        clear hla
        generalize flushBs bs q = bs' at *
        have hll : (bs.getD q []).length ≤ 16 := by
          have := small_len 16 (bs.getD q []) (by
            have hs : (bs.getD q []).Sublist bs.flatten := by
              have hqq : q < bs.length := by have := hO.four; omega
              rw [List.getD, List.getElem?_eq_getElem hqq]
              exact List.sublist_flatten_of_mem (List.getElem_mem hqq)
            exact hO.good.nodup.sublist hs) (fun x hx => by obtain ⟨x', rfl, h⟩ := hO.small hq hx; omega)
          exact this
        generalize bs.getD q [] = l at *
        clear hO k5 h5 hIq
        obtain ⟨_, Av, cv, rfl, hmc, hcell⟩ := rds_int hv
        have HC := Lib.hid hcell
        have HF := Lib.hid hF
        have HN := Lib.hid hN
        have H16 := Lib.hid hl16
        have HLB := Lib.hid hlb
        clear hcell hF hN hl16 hlb
        go_wp2_with fail
        go_loopg [14, 87] l.length (fun m lastv i wr => ∃ (j : Nat) (y : Int), i = .int .i64 j ∧ lastv = .int .i64 y ∧ j + m = l.length ∧ (∀ r : Nat, j < l.length → l.getD j 0 = r → y < ta.getD r 0) ∧ InvO w wr T g N L a b bs' (zeros ta (l.take j)) tb ∧ Keeps (fun k => k = a) w5 wr)
        case atStart =>
          refine ⟨0, 0, rfl, rfl, by omega, fun r hj hr => ?_, hI5, Keeps.refl _ _⟩
          obtain ⟨p', e1', _, _, _, h4, _⟩ := HF.out 0 hj
          obtain rfl : r = p' := by rw [e1'] at hr; exact (Int.ofNat.inj hr).symm
          exact h4
        case round =>
          obtain ⟨j, y, rfl, rfl, hjm, hy, hIr, kr⟩ := hrel
          have HJM := Lib.hid hjm
          have HY := Lib.hid hy
          have hjl : j ≤ l.length := by omega
          clear hjm hy
          by_cases hj : j < l.length
          · have hj' : (j : Int) < l.length := by omega
            obtain ⟨bv, ov, rfl, hc⟩ := HC.out (by omega)
            have hcj := hc j hj
            obtain ⟨r, er, hr16, hrq, hz, hpos, hlt, hzn⟩ := HF.out j hj
            have hyr := HY.out r hj er
            rw [er] at hcj
            have ha0 := hv
            obtain ⟨_, _, _, hvv, _, hvA⟩ := hv
            injection hvv with hvv1 hvv2 hvv3
            obtain ⟨bv', ov', hbo, hbw, hblt, _⟩ := hvA.resolve_left (by omega)
            rw [← hvv1] at hbo
            injection hbo with hbo
            injection hbo with hb1 hb2
            have hbv : bv ≠ a := by omega
            have hcj' := (kr.cell (p := ⟨bv, ov + j, none⟩) (by show bv < _; omega) hbv).trans hcj
            have cA := hIr.cA (p := r) (by rw [H16.out]; omega)
            have cB := hIr.cB (p := r) (by rw [HLB.out]; omega)
            have fA := blkfrozen hIr.A r
            rw [hz] at cA
            rw [hrq] at cB
            have HI := hIr.setA r 0
            rw [← hzn] at HI
            have hnext : ∀ r' : Nat, j + 1 < l.length → l.getD (j + 1) 0 = r' → ta.getD r 0 < ta.getD r' 0 := by
              intro r' hj1 er'
              obtain ⟨r2, er2, _, _, _, _, hlt2, _⟩ := HF.out (j + 1) hj1
              obtain rfl : r' = r2 := by rw [er2] at er'; exact (Int.ofNat.inj er').symm
              exact hlt2 j r (by omega) er
            have HNX := Lib.hid hnext
            have kr' : Keeps (fun k => k = a) w5 (wr.setCell ⟨a, r, none⟩ (.int .i64 0)) := kr.setCell (p := ⟨a, r, none⟩) (.inl rfl) _
            have hne : ((q : Int) != (q : Int)) = false := by simp
            have hle : ¬ (ta.getD r 0 ≤ y) := by omega
            clear hnext hz hrq hzn hlt er hcj hc hb1 hb2 hvv1 hvv2 hvv3 hvA ha0
            have hy2 := hyr
            obtain ⟨x, hx⟩ : ∃ x, x = ta.getD r 0 := ⟨_, rfl⟩
            rw [← hx] at cA hle hyr
            have HX := Lib.hid hx
            clear hx hpos hy2
            go_wp2_with fail
            have hjm := HJM.out
            go_roundg (gk - 1)
            case measure => omega
            case rel => exact ⟨j + 1, x, by go_num, rfl, by omega, by rw [HX.out]; exact HNX.out, HI, kr'⟩
          · have e : j = l.length := by omega
            subst e
            rw [List.take_length] at hIr
            clear kr HY
            go_wp2_with fail
            obtain ⟨wz, hwz⟩ : ∃ wz : World, wz = wr := ⟨_, rfl⟩
            rw [← hwz] at hIr ⊢
            clear hwz
            go_loopg [117] 16 (fun m i wr => ∃ r : Nat, i = .int .i64 r ∧ r + m = 16 ∧ wr = wz)
            case atStart => exact ⟨0, rfl, rfl, rfl⟩
            case round =>
              obtain ⟨r, rfl, hrm, hwr⟩ := hrel
              obtain rfl := hwr.symm
              clear hwr
              have HRM := Lib.hid hrm
              have hr16 : r ≤ 16 := by omega
              clear hrm
              by_cases hr : r < 16
              · have hr' : (r : Int) < 16 := by omega
                have cA := hIr.cA (p := r) (by rw [H16.out]; omega)
                have cB := hIr.cB (p := r) (by rw [HLB.out]; omega)
                have hnn := HN.out r hr
                generalize (zeros ta l).getD r 0 = x at *
                generalize tb.getD r 0 = x' at *
                by_cases hx0 : 0 < x
                · have hx' : (x' == (q : Int)) = false := by simp; intro e; exact hnn ⟨hx0, e⟩
                  clear hnn
                  go_wp2_with fail
                  have hrm := HRM.out
                  go_roundg (gk - 1)
                  case measure => omega
                  case rel => exact ⟨r + 1, by go_num, by omega, rfl⟩
                · clear hnn
                  go_wp2_with fail
                  have hrm := HRM.out
                  go_roundg (gk - 1)
                  case measure => omega
                  case rel => exact ⟨r + 1, by go_num, by omega, rfl⟩
              · have e : r = 16 := by omega
                subst e
                go_wp2_with fail
                have hkm := HKM.out
                go_roundg (gq - 1)
                case measure => omega
                case rel => exact ⟨k + 1, _, _, _, by go_num, by omega, hO', hIr⟩
    · have e : k = len := by omega
      subst e
      go_wp2_with fail
      refine (law24_alive _).mono ?_
      rintro e w4 ⟨rfl, k4⟩
      go_wp2
      go_ret
      exact ⟨rfl, hI.kept.trans' k4⟩
end Go.Proofs.Ytfnlmnpfflnaiaa

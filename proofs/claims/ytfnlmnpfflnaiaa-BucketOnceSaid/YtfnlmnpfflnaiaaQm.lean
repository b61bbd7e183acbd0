/- A pool of queues (becket/queue) in memory: its blocks, its lines and its nodes; the walks of hang and take. -/
import Derived.Test.YtfnlmnpfflnaiaaProg
import Derived.Test.YtfnlmnpfflnaiaaKq
import Derived.Test.YtfnlmnpfflnaiaaQp
namespace Go.Proofs.Ytfnlmnpfflnaiaa
open Go.RowKit
set_option linter.unusedVariables false
set_option linter.unusedSimpArgs false

/-- Where a line lies: the line of free nodes (0) in the pool itself, queue q (q + 1) among the lines. -/
def LinePtr (g L Q k lb lo : Nat) : Prop := (k = 0 ∧ lb = g ∧ lo = 2) ∨ ∃ q, q < Q ∧ k = q + 1 ∧ lb = L ∧ lo = q * 3

structure IsPool (w : World) (g N L R Q cap : Nat) (xs nx F La M : Nat → Int) : Prop where
  bg : ∃ cs, w.heap[g]? = some (.cells cs 69 (0, 0))
  bN : ∃ cs, w.heap[N]? = some (.cells cs 76 (0, 0))
  bL : ∃ cs, w.heap[L]? = some (.cells cs 66 (0, 0))
  c0 : w.cell? ⟨g, 0, none⟩ = some (.slice (some ⟨N, 0, none⟩) R R)
  c1 : w.cell? ⟨g, 1, none⟩ = some (.slice (some ⟨L, 0, none⟩) Q cap)
  nd : ∀ j, j < R → w.cell? ⟨N, j * 2, none⟩ = some (.int .i64 (xs j)) ∧ w.cell? ⟨N, j * 2 + 1, none⟩ = some (.int .i64 (nx j))
  ln : ∀ k lb lo, LinePtr g L Q k lb lo → w.cell? ⟨lb, lo, none⟩ = some (.int .i64 (F k)) ∧ w.cell? ⟨lb, lo + 1, none⟩ = some (.int .i64 (La k)) ∧ w.cell? ⟨lb, lo + 2, none⟩ = some (.int .i64 (M k))
  gN : g ≠ N
  gL : g ≠ L
  NL : N ≠ L
  Qpos : 0 < Q
  Qle : Q ≤ 64
  Rle : R ≤ 1024
  Qcap : Q ≤ cap

theorem cset_ne {w : World} {p q : Addr} {v : Value} {u : Value} (hc : w.cell? q = some u) (h : p ≠ q) : (w.setCell p v).cell? q = some u := (World.cell?_setCell_other _ _ _ _ h).trans hc
theorem ad_ne {b o b' o' : Nat} (h : b ≠ b' ∨ o ≠ o') : (⟨b, o, none⟩ : Addr) ≠ ⟨b', o', none⟩ := by
  intro e; injection e with e1 e2; rcases h with h | h
  · exact h e1
  · exact h e2
theorem bset {w : World} {g : Nat} {t : TypeId} (h : ∃ cs, w.heap[g]? = some (.cells cs t (0, 0))) (p : Addr) (v : Value) : ∃ cs, (w.setCell p v).heap[g]? = some (.cells cs t (0, 0)) := by
  obtain ⟨cs, h⟩ := h
  obtain ⟨b, o, sp⟩ := p
  by_cases e : g = b
  · subst e
    cases sp with
    | none => exact ⟨_, blkset h o v⟩
    | some s => exact ⟨cs, by simp [World.setCell, Array.getElem?_modify, h]⟩
  · exact ⟨cs, blkfar h e v⟩

theorem LinePtr.apart {g L Q k k' lb lo lb' lo' a a' : Nat} (h : LinePtr g L Q k lb lo) (h' : LinePtr g L Q k' lb' lo') (hgL : g ≠ L) (ha : a < 3) (ha' : a' < 3) (hne : k ≠ k' ∨ a ≠ a') : lb ≠ lb' ∨ lo + a ≠ lo' + a' := by
  rcases h with ⟨h1, h2, h3⟩ | ⟨q, h0, h1, h2, h3⟩ <;> rcases h' with ⟨h1', h2', h3'⟩ | ⟨q', h0', h1', h2', h3'⟩ <;> subst h1 <;> subst h1' <;> subst h2 <;> subst h2' <;> omega

theorem LinePtr.block {g L Q k lb lo : Nat} (h : LinePtr g L Q k lb lo) : lb = g ∧ lo = 2 ∨ lb = L := by
  rcases h with ⟨_, h2, h3⟩ | ⟨q, _, _, h2, _⟩
  · exact .inl ⟨h2, h3⟩
  · exact .inr h2

namespace IsPool
variable {w w' : World} {g N L R Q cap : Nat} {xs nx F La M : Nat → Int} {k lb lo : Nat}
theorem keeps {S : Nat → Prop} (h : IsPool w g N L R Q cap xs nx F La M) (hk : Keeps S w w') (hg : ¬ S g) (hN : ¬ S N) (hL : ¬ S L) : IsPool w' g N L R Q cap xs nx F La M := by
  obtain ⟨cg, bg⟩ := h.bg
  obtain ⟨cN, bN⟩ := h.bN
  obtain ⟨cL, bL⟩ := h.bL
  have lg := blklt bg
  have lN := blklt bN
  have lL := blklt bL
  refine ⟨⟨cg, hk.blk bg hg⟩, ⟨cN, hk.blk bN hN⟩, ⟨cL, hk.blk bL hL⟩, (hk.cell (p := ⟨g, 0, none⟩) lg hg).trans h.c0, (hk.cell (p := ⟨g, 1, none⟩) lg hg).trans h.c1, fun j hj => ⟨(hk.cell (p := ⟨N, _, none⟩) lN hN).trans (h.nd j hj).1, (hk.cell (p := ⟨N, _, none⟩) lN hN).trans (h.nd j hj).2⟩, fun k lb lo hp => ?_, h.gN, h.gL, h.NL, h.Qpos, h.Qle, h.Rle, h.Qcap⟩
  obtain ⟨h1, h2, h3⟩ := h.ln k lb lo hp
  rcases hp.block with ⟨rfl, _⟩ | rfl
  · exact ⟨(hk.cell (p := ⟨_, _, none⟩) lg hg).trans h1, (hk.cell (p := ⟨_, _, none⟩) lg hg).trans h2, (hk.cell (p := ⟨_, _, none⟩) lg hg).trans h3⟩
  · exact ⟨(hk.cell (p := ⟨_, _, none⟩) lL hL).trans h1, (hk.cell (p := ⟨_, _, none⟩) lL hL).trans h2, (hk.cell (p := ⟨_, _, none⟩) lL hL).trans h3⟩
theorem drewN (h : IsPool w g N L R Q cap xs nx F La M) (n : Nat) : IsPool (w.drewN n) g N L R Q cap xs nx F La M := h.keeps (S := fun _ => False) ((Keeps.refl _ w).drewN n) (fun x => x) (fun x => x) (fun x => x)
theorem fg (h : IsPool w g N L R Q cap xs nx F La M) (o : Nat) : w.frozen? ⟨g, o, none⟩ = false := by obtain ⟨_, b⟩ := h.bg; exact blkfrozen b o
theorem fN (h : IsPool w g N L R Q cap xs nx F La M) (o : Nat) : w.frozen? ⟨N, o, none⟩ = false := by obtain ⟨_, b⟩ := h.bN; exact blkfrozen b o
theorem fL (h : IsPool w g N L R Q cap xs nx F La M) (o : Nat) : w.frozen? ⟨L, o, none⟩ = false := by obtain ⟨_, b⟩ := h.bL; exact blkfrozen b o
theorem fl (h : IsPool w g N L R Q cap xs nx F La M) (hp : LinePtr g L Q k lb lo) (o : Nat) : w.frozen? ⟨lb, o, none⟩ = false := by
  rcases hp.block with ⟨rfl, _⟩ | rfl
  · exact h.fg o
  · exact h.fL o
theorem lt (h : IsPool w g N L R Q cap xs nx F La M) : g < w.heap.size ∧ N < w.heap.size ∧ L < w.heap.size := by
  obtain ⟨_, b⟩ := h.bg
  obtain ⟨_, b'⟩ := h.bN
  obtain ⟨_, b''⟩ := h.bL
  exact ⟨blklt b, blklt b', blklt b''⟩
theorem lneN (h : IsPool w g N L R Q cap xs nx F La M) (hp : LinePtr g L Q k lb lo) : lb ≠ N := by
  have := h.gN; have := h.NL
  rcases hp.block with ⟨h, _⟩ | h <;> omega

/-- A store into a node. -/
theorem setX (h : IsPool w g N L R Q cap xs nx F La M) (i : Nat) (v : Int) (hi : i < R) : IsPool (w.setCell ⟨N, i * 2, none⟩ (.int .i64 v)) g N L R Q cap (upd xs i v) nx F La M := by
  refine ⟨bset h.bg _ _, bset h.bN _ _, bset h.bL _ _, cset_ne h.c0 (ad_ne (.inl h.gN.symm)), cset_ne h.c1 (ad_ne (.inl h.gN.symm)), fun j hj => ?_, fun k lb lo hp => ?_, h.gN, h.gL, h.NL, h.Qpos, h.Qle, h.Rle, h.Qcap⟩
  · obtain ⟨h1, h2⟩ := h.nd j hj
    refine ⟨?_, cset_ne h2 (ad_ne (.inr (by omega)))⟩
    by_cases e : j = i
    · subst e; rw [upd_same]; exact World.cell?_setCell_same' _ _ _ (by rw [h1]; rfl)
    · rw [upd_ne _ _ e]; exact cset_ne h1 (ad_ne (.inr (by omega)))
  · obtain ⟨h1, h2, h3⟩ := h.ln k lb lo hp
    have hne := (h.lneN hp).symm
    exact ⟨cset_ne h1 (ad_ne (.inl hne)), cset_ne h2 (ad_ne (.inl hne)), cset_ne h3 (ad_ne (.inl hne))⟩
theorem setNx (h : IsPool w g N L R Q cap xs nx F La M) (i : Nat) (v : Int) (hi : i < R) : IsPool (w.setCell ⟨N, i * 2 + 1, none⟩ (.int .i64 v)) g N L R Q cap xs (upd nx i v) F La M := by
  refine ⟨bset h.bg _ _, bset h.bN _ _, bset h.bL _ _, cset_ne h.c0 (ad_ne (.inl h.gN.symm)), cset_ne h.c1 (ad_ne (.inl h.gN.symm)), fun j hj => ?_, fun k lb lo hp => ?_, h.gN, h.gL, h.NL, h.Qpos, h.Qle, h.Rle, h.Qcap⟩
  · obtain ⟨h1, h2⟩ := h.nd j hj
    refine ⟨cset_ne h1 (ad_ne (.inr (by omega))), ?_⟩
    by_cases e : j = i
    · subst e; rw [upd_same]; exact World.cell?_setCell_same' _ _ _ (by rw [h2]; rfl)
    · rw [upd_ne _ _ e]; exact cset_ne h2 (ad_ne (.inr (by omega)))
  · obtain ⟨h1, h2, h3⟩ := h.ln k lb lo hp
    have hne := (h.lneN hp).symm
    exact ⟨cset_ne h1 (ad_ne (.inl hne)), cset_ne h2 (ad_ne (.inl hne)), cset_ne h3 (ad_ne (.inl hne))⟩

/-- A store into a line. -/
theorem setLine (h : IsPool w g N L R Q cap xs nx F La M) (hp : LinePtr g L Q k lb lo) (a : Nat) (ha : a < 3) (v : Int) :
    IsPool (w.setCell ⟨lb, lo + a, none⟩ (.int .i64 v)) g N L R Q cap xs nx (if a = 0 then upd F k v else F) (if a = 1 then upd La k v else La) (if a = 2 then upd M k v else M) := by
  have hbl := hp.block
  have hgL := h.gL
  refine ⟨bset h.bg _ _, bset h.bN _ _, bset h.bL _ _, cset_ne h.c0 (ad_ne (by omega)), cset_ne h.c1 (ad_ne (by omega)), fun j hj => ⟨cset_ne (h.nd j hj).1 (ad_ne (.inl (h.lneN hp))), cset_ne (h.nd j hj).2 (ad_ne (.inl (h.lneN hp)))⟩, fun k' lb' lo' hp' => ?_, h.gN, h.gL, h.NL, h.Qpos, h.Qle, h.Rle, h.Qcap⟩
  obtain ⟨h1, h2, h3⟩ := h.ln k' lb' lo' hp'
  have g0 : ∀ b, b < 3 → (k ≠ k' ∨ a ≠ b) → ∀ u, w.cell? ⟨lb', lo' + b, none⟩ = some u → (w.setCell ⟨lb, lo + a, none⟩ (.int .i64 v)).cell? ⟨lb', lo' + b, none⟩ = some u := fun b hb hne u hu => cset_ne hu (ad_ne (hp.apart hp' h.gL ha hb hne))
  by_cases e : k' = k
  · subst e
    have hsame : lb' = lb ∧ lo' = lo := by
      rcases hp with ⟨a1, a2, a3⟩ | ⟨q, _, a1, a2, a3⟩ <;> rcases hp' with ⟨b1, b2, b3⟩ | ⟨q', _, b1, b2, b3⟩ <;> omega
    obtain ⟨rfl, rfl⟩ := hsame
    match a, ha with
    | 0, _ => exact ⟨by simp only [if_pos, upd_same]; exact World.cell?_setCell_same' _ _ _ (by rw [Nat.add_zero, h1]; rfl), g0 1 (by omega) (.inr (by omega)) _ h2, g0 2 (by omega) (.inr (by omega)) _ h3⟩
    | 1, _ => exact ⟨g0 0 (by omega) (.inr (by omega)) _ h1, by simp only [if_pos, upd_same]; exact World.cell?_setCell_same' _ _ _ (by rw [h2]; rfl), g0 2 (by omega) (.inr (by omega)) _ h3⟩
    | 2, _ => exact ⟨g0 0 (by omega) (.inr (by omega)) _ h1, g0 1 (by omega) (.inr (by omega)) _ h2, by simp only [if_pos, upd_same]; exact World.cell?_setCell_same' _ _ _ (by rw [h3]; rfl)⟩
  · have e1 : ∀ (f : Nat → Int) (c : Prop) [Decidable c], (if c then upd f k v else f) k' = f k' := by intro f c _; split; exact upd_ne _ _ e; rfl
    rw [e1, e1, e1]
    exact ⟨g0 0 (by omega) (.inl (fun x => e x.symm)) _ h1, g0 1 (by omega) (.inl (fun x => e x.symm)) _ h2, g0 2 (by omega) (.inl (fun x => e x.symm)) _ h3⟩
theorem setF (h : IsPool w g N L R Q cap xs nx F La M) (hp : LinePtr g L Q k lb lo) (v : Int) : IsPool (w.setCell ⟨lb, lo, none⟩ (.int .i64 v)) g N L R Q cap xs nx (upd F k v) La M := h.setLine hp 0 (by omega) v
theorem setLa (h : IsPool w g N L R Q cap xs nx F La M) (hp : LinePtr g L Q k lb lo) (v : Int) : IsPool (w.setCell ⟨lb, lo + 1, none⟩ (.int .i64 v)) g N L R Q cap xs nx F (upd La k v) M := h.setLine hp 1 (by omega) v
theorem setM (h : IsPool w g N L R Q cap xs nx F La M) (hp : LinePtr g L Q k lb lo) (v : Int) : IsPool (w.setCell ⟨lb, lo + 2, none⟩ (.int .i64 v)) g N L R Q cap xs nx F La (upd M k v) := h.setLine hp 2 (by omega) v
end IsPool

/-- The blocks that a pool's methods write. -/
def PB (g N L : Nat) : Nat → Prop := fun b => b = g ∨ b = N ∨ b = L
theorem PB.line {g N L Q k lb lo : Nat} (h : LinePtr g L Q k lb lo) : PB g N L lb := by
  rcases h.block with ⟨h, _⟩ | h
  · exact .inl h
  · exact .inr (.inr h)

set_option maxHeartbeats 400000 in
theorem pool_hang0 (g N L R Q cap k lb lo i : Nat) (xs nx F La M : Nat → Int) (w : World) (h : IsPool w g N L R Q cap xs nx F La M) (hp : LinePtr g L Q k lb lo) (hi : i < R) (hM : M k = 0) :
    Calls Try.prog 27 #[.pointer (some ⟨g, 0, none⟩), .pointer (some ⟨lb, lo, none⟩), .int .i64 i] w fun e w' => e = .returned (.tuple #[]) ∧
      IsPool w' g N L R Q cap xs (upd nx i (-1)) (upd F k i) (upd La k i) (upd M k 1) ∧ Keeps (PB g N L) w w' := by
  have c0 := h.c0
  obtain ⟨x1, x2⟩ := h.nd i hi
  obtain ⟨l1, l2, l3⟩ := h.ln k lb lo hp
  rw [hM] at l3
  have hne := h.lneN hp
  have f1 := h.fN (i * 2 + 1)
  have g0 := h.fl hp lo
  have g1 := h.fl hp (lo + 1)
  have g2 := h.fl hp (lo + 2)
  have HH := Lib.hid h
  have HM := Lib.hid hM
  clear h hM
  go_enter Try.func27, Try.ntmps27
  go_wp2
  go_end0
  refine ⟨rfl, ?_, ?_⟩
  · exact ((((HH.out.setNx i (-1) hi).setF hp i).setLa hp i).setM hp 1)
  · exact ((((Keeps.refl (PB g N L) w).setCell (.inl (.inr (.inl rfl))) _).setCell (.inl (PB.line hp)) _).setCell (.inl (PB.line hp)) _).setCell (.inl (PB.line hp)) _

set_option maxHeartbeats 400000 in
theorem pool_hang1 (g N L R Q cap k lb lo i l m : Nat) (xs nx F La M : Nat → Int) (w : World) (h : IsPool w g N L R Q cap xs nx F La M) (hp : LinePtr g L Q k lb lo) (hi : i < R) (hl : l < R) (hm : m < 100000) (hM : M k = (m : Int) + 1) (hLa : La k = (l : Int)) :
    Calls Try.prog 27 #[.pointer (some ⟨g, 0, none⟩), .pointer (some ⟨lb, lo, none⟩), .int .i64 i] w fun e w' => e = .returned (.tuple #[]) ∧
      IsPool w' g N L R Q cap xs (upd (upd nx i (-1)) l i) F (upd La k i) (upd M k ((m : Int) + 2)) ∧ Keeps (PB g N L) w w' := by
  have c0 := h.c0
  obtain ⟨x1, x2⟩ := h.nd i hi
  obtain ⟨l1, l2, l3⟩ := h.ln k lb lo hp
  rw [hM] at l3
  have hne := h.lneN hp
  have f1 := h.fN (i * 2 + 1)
  have g2 := h.fl hp (lo + 2)
  have hz : ((m : Int) + 1 == 0) = false := by simp; omega
  have HH := Lib.hid h
  have h1 := h.setNx i (-1) hi
  have k1 : Keeps (PB g N L) w (w.setCell ⟨N, i * 2 + 1, none⟩ (.int .i64 (-1))) := (Keeps.refl (PB g N L) w).setCell (.inl (.inr (.inl rfl))) _
  have d0 := h1.c0
  obtain ⟨y1, y2⟩ := h1.nd l hl
  obtain ⟨m1, m2, m3⟩ := h1.ln k lb lo hp
  rw [hLa] at m2
  rw [hM] at m3
  have e1 := h1.fN (l * 2 + 1)
  have ee1 := h1.fl hp (lo + 1)
  have ee2 := h1.fl hp (lo + 2)
  clear hLa h hM
  go_enter Try.func27, Try.ntmps27
  go_wp2
  generalize w.setCell ⟨N, i * 2 + 1, none⟩ (.int .i64 (-1)) = w1 at *
  refine wp_qtail (w0 := w1) 11 ⟨0, rfl⟩ (by kernel_rfl) (by kernel_rfl) ?_
  simp only [List.take_succ_cons, List.take_zero, List.drop_succ_cons, List.drop_zero]
  repeat go_big_quiet_step (fail)
  refine wpQuiet_nil (fun nz => ?_)
  go_wp2
  go_end0
  refine ⟨rfl, ?_, ?_⟩
  · have h2 := (((h1.drewN nz).setNx l i hl).setLa hp i).setM hp ((m : Int) + 2)
    rw [show (m : Int) + 1 + 1 = m + 2 by omega]
    exact h2
  · exact (((k1.drewN nz).setCell (.inl (.inr (.inl rfl))) _).setCell (.inl (PB.line hp)) _).setCell (.inl (PB.line hp)) _

set_option maxHeartbeats 800000 in
theorem pool_take0 (g N L R Q cap k lb lo i m : Nat) (r : Int) (xs nx F La M : Nat → Int) (w : World) (h : IsPool w g N L R Q cap xs nx F La M) (hp : LinePtr g L Q k lb lo) (hi : i < R) (hm : m < 100000) (hM : M k = (m : Int) + 1) (hF : F k = (i : Int)) (hr : nx i = r) :
    Calls Try.prog 29 #[.pointer (some ⟨g, 0, none⟩), .pointer (some ⟨lb, lo, none⟩), .int .i64 (-1)] w fun e w' => e = .returned (.int .i64 i) ∧
      IsPool w' g N L R Q cap xs nx (upd F k r) (relast La k i (-1)) (upd M k m) ∧ Keeps (PB g N L) w w' := by
  have c0 := h.c0
  obtain ⟨x1, x2⟩ := h.nd i hi
  obtain ⟨l1, l2, l3⟩ := h.ln k lb lo hp
  rw [hM] at l3
  rw [hF] at l1
  rw [hr] at x2
  have hne := h.lneN hp
  have g0 := h.fl hp lo
  have g1 := h.fl hp (lo + 1)
  have g2 := h.fl hp (lo + 2)
  have hms : (m : Int) + 1 - 1 = m := by omega
  have HH := Lib.hid h
  clear h hM hF hr
  by_cases hla : La k = (i : Int)
  · rw [hla] at l2
    have HLA := Lib.hid hla
    clear hla
    go_enter Try.func29, Try.ntmps29
    go_wp2
    go_ret
    rw [relast, if_pos HLA.out]
    exact ⟨rfl, (((HH.out.setF hp r).setLa hp (-1)).setM hp m), (((Keeps.refl (PB g N L) w).setCell (.inl (PB.line hp)) _).setCell (.inl (PB.line hp)) _).setCell (.inl (PB.line hp)) _⟩
  · obtain ⟨l, hl⟩ : ∃ l, l = La k := ⟨_, rfl⟩
    rw [← hl] at l2 hla
    have hla' : (l == (i : Int)) = false := by simpa using hla
    have HL := Lib.hid hl
    clear hl
    go_enter Try.func29, Try.ntmps29
    go_wp2
    go_ret
    rw [relast, if_neg (by rw [← HL.out]; exact hla)]
    exact ⟨rfl, ((HH.out.setF hp r).setM hp m), ((Keeps.refl (PB g N L) w).setCell (.inl (PB.line hp)) _).setCell (.inl (PB.line hp)) _⟩

set_option maxHeartbeats 800000 in
theorem pool_take1 (g N L R Q cap k lb lo a i m : Nat) (r : Int) (xs nx F La M : Nat → Int) (w : World) (h : IsPool w g N L R Q cap xs nx F La M) (hp : LinePtr g L Q k lb lo) (ha : a < R) (hi : i < R) (hai : a ≠ i) (hm : m < 100000) (hM : M k = (m : Int) + 1) (hA : nx a = (i : Int)) (hr : nx i = r) :
    Calls Try.prog 29 #[.pointer (some ⟨g, 0, none⟩), .pointer (some ⟨lb, lo, none⟩), .int .i64 a] w fun e w' => e = .returned (.int .i64 i) ∧
      IsPool w' g N L R Q cap xs (upd nx a r) F (relast La k i a) (upd M k m) ∧ Keeps (PB g N L) w w' := by
  have c0 := h.c0
  obtain ⟨x1, x2⟩ := h.nd i hi
  obtain ⟨y1, y2⟩ := h.nd a ha
  obtain ⟨l1, l2, l3⟩ := h.ln k lb lo hp
  rw [hM] at l3
  rw [hr] at x2
  rw [hA] at y2
  have hne := h.lneN hp
  have f1 := h.fN (a * 2 + 1)
  have g1 := h.fl hp (lo + 1)
  have g2 := h.fl hp (lo + 2)
  have hms : (m : Int) + 1 - 1 = m := by omega
  have hb1 : ((a : Int) != -1) = true := by simp
  have hb2 : ((a : Int) == -1) = false := by simp
  have HH := Lib.hid h
  clear h hM hA hr
  by_cases hla : La k = (i : Int)
  · rw [hla] at l2
    have HLA := Lib.hid hla
    clear hla
    go_enter Try.func29, Try.ntmps29
    go_wp2
    go_ret
    rw [relast, if_pos HLA.out]
    exact ⟨rfl, (((HH.out.setNx a r ha).setLa hp a).setM hp m), (((Keeps.refl (PB g N L) w).setCell (.inl (.inr (.inl rfl))) _).setCell (.inl (PB.line hp)) _).setCell (.inl (PB.line hp)) _⟩
  · obtain ⟨l, hl⟩ : ∃ l, l = La k := ⟨_, rfl⟩
    rw [← hl] at l2 hla
    have hla' : (l == (i : Int)) = false := by simpa using hla
    have HL := Lib.hid hl
    clear hl
    go_enter Try.func29, Try.ntmps29
    go_wp2
    go_ret
    rw [relast, if_neg (by rw [← HL.out]; exact hla)]
    exact ⟨rfl, ((HH.out.setNx a r ha).setM hp m), ((Keeps.refl (PB g N L) w).setCell (.inl (.inr (.inl rfl))) _).setCell (.inl (PB.line hp)) _⟩

set_option maxHeartbeats 400000 in
theorem pool_ok (g N L R Q cap : Nat) (xs nx F La M : Nat → Int) (w : World) (h : IsPool w g N L R Q cap xs nx F La M) :
    Calls Try.prog 32 #[.pointer (some ⟨g, 0, none⟩)] w fun e w' => e = .returned (.bool true) ∧ w = w' := by
  have c1 := h.c1
  have hq := h.Qpos
  have hq' : (0 : Int) < Q := by omega
  clear h
  go_enter Try.func32, Try.ntmps32
  go_wp2
  go_ret
  exact ⟨by simp [hq], rfl⟩

set_option maxHeartbeats 400000 in
theorem pool_queue_bad (g N L R Q cap : Nat) (q : Int) (xs nx F La M : Nat → Int) (w : World) (h : IsPool w g N L R Q cap xs nx F La M) (hq : q < 0 ∨ (Q : Int) ≤ q) :
    Calls Try.prog 30 #[.pointer (some ⟨g, 0, none⟩), .int .i64 q] w fun e w' => e = .returned (.tuple #[.pointer none, .int .i64 8]) ∧ w = w' := by
  have c1 := h.c1
  by_cases h0 : q < 0
  all_goals
    go_enter Try.func30, Try.ntmps30
    go_wp2_with (go_at_call 32; refine (pool_ok g N L R Q cap xs nx F La M _ h).mono ?_; rintro e w' ⟨rfl, rfl⟩)
    go_ret2
    exact ⟨rfl, rfl⟩

set_option maxHeartbeats 400000 in
theorem pool_queue (g N L R Q cap q : Nat) (xs nx F La M : Nat → Int) (w : World) (h : IsPool w g N L R Q cap xs nx F La M) (hq : q < Q) :
    Calls Try.prog 30 #[.pointer (some ⟨g, 0, none⟩), .int .i64 q] w fun e w' => e = .returned (.tuple #[.pointer (some ⟨L, q * 3, none⟩), .int .i64 0]) ∧ w = w' := by
  have c1 := h.c1
  have h0 : ¬ ((q : Int) < 0) := by omega
  have h1 : ¬ ((Q : Int) ≤ q) := by omega
  go_enter Try.func30, Try.ntmps30
  go_wp2_with (go_at_call 32; refine (pool_ok g N L R Q cap xs nx F La M _ h).mono ?_; rintro e w' ⟨rfl, rfl⟩)
  go_ret2
  exact ⟨rfl, rfl⟩

end Go.Proofs.Ytfnlmnpfflnaiaa

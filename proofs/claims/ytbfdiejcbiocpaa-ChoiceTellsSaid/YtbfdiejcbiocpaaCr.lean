/- Reading choices: Read of the program. -/
import Derived.Test.YtbfdiejcbiocpaaCe
import Derived.Test.YtbfdiejcbiocpaaCd
import Derived.RangeFuncBox
import Derived.Maps.AppendAt
import Derived.Laws.BitsLemmas
namespace Go.Proofs.Ytbfdiejcbiocpaa
open Go.RowKit Go.Shelf
set_option linter.unusedVariables false
set_option linter.unusedSimpArgs false
attribute [local go_sem] Oper.semAt_some

theorem or_join' (a b : Int) (ha : 0 ≤ a) (ha' : a < 256) (hb : 0 ≤ b) (hb' : b < 256) : bits .or .i64 (a * 256) b = a * 256 + b := by
  have e1 : (2 : Int) ^ 62 = 4611686018427387904 := by decide
  have e2 : (2 : Int) ^ 8 = 256 := by decide
  exact bits_join .i64 62 (by decide) (fun n h1 h2 => by rw [IntKind.wrap_i64]; omega) 8 (a * 256) b (by omega) (by omega) (by omega) hb (by omega) (by omega)

theorem p_parts (s : ByteArray) (many : Int) (w : World) :
    Calls Try.prog 20 #[.string s, .int .i64 many] w fun e w' => e = .returned (.func (.func 23) #[] #[.pointer (some ⟨w.heap.size + 1, 0, none⟩), .pointer (some ⟨w.heap.size, 0, none⟩)]) ∧ w' = (w.alloc (.cells #[.string s] 9)).alloc (.cells #[.int .i64 many] 3) := by
  go_enter Try.func20, Try.ntmps20
  go_wp2
  go_ret
  exact ⟨rfl, rfl⟩

theorem kpB_t {b1 b2 : Nat} {A B C : World} (h : KpB b1 b2 A B) (k : KpB b1 b2 B C) : KpB b1 b2 A C := fun b hb => (k b hb).trans (h b hb)
theorem kpB_b {b1 b2 n : Nat} (h1 : b1 < n) (h2 : b2 < n) (W : World) (l : Nat) (o o' : Obj) (hl : n ≤ l) (h : W.heap[l]? = some o) (_ : o.isCells = false) (_ : o.isWalk = false) : KpB b1 b2 W (W.putObj l o') :=
  fun b hb => World.putObj_heap_other (fun e => by rcases hb with rfl | rfl <;> omega)

/-- The choice of a part. -/
def chP (x : Part) : Ch := mk3 (bt x.1 0) (bt x.1 1) (bt x.1 2)

/-- The three results' cells. -/
def Res3 (w W : World) (e : Int) : Prop := Boxed W w.heap.size 29 (.slice none 0 0) ∧ Boxed W (w.heap.size + 1) 3 (.int .i64 0) ∧ Boxed W (w.heap.size + 1 + 1) 26 (.int .i64 e)
/-- What the iterator has captured. -/
def Cap2 (B : Nat) (t : ByteArray) (M : Nat) (W : World) : Prop := Boxed W (B + 1) 9 (.string t) ∧ Boxed W (B + 1 + 1) 3 (.int .i64 M)
theorem Cap2.kp {B : Nat} {t : ByteArray} {M : Nat} {X Y : World} (h : Cap2 B t M X) (k : Cap2 B t M Y) : KpB (B + 1 + 1) (B + 1) X Y := by
  intro b hb
  rcases hb with rfl | rfl
  · exact Eq.trans k.2 (Eq.symm h.2)
  · exact Eq.trans k.1 (Eq.symm h.1)
/-- Between two rounds. -/
def IR (w : World) (B : Nat) (t : ByteArray) (M : Nat) (pre : List Part) (W : World) : Prop :=
  (∃ v, Boxed W B 29 v ∧ W.ownsRow w.heap.size 36 3 v pre.length (flatC (pre.map chP)) ∧ ∀ x ∈ pre, chk (chP x) = 0) ∧ Res3 w W 0 ∧ Below w.heap.size w W ∧ Cap2 B t M W
/-- Behind a round that returns. -/
def IxR (w : World) (c : Code) (pre : List Part) (W : World) : Prop :=
  c = .ret ∧ (∃ e : Int, e ≠ 0 ∧ (∃ pre' x, pre = pre' ++ [x] ∧ (∀ y ∈ pre', chk (chP y) = 0) ∧ chk (chP x) = e) ∧ Res3 w W e) ∧ Below w.heap.size w W
theorem res3_own {β : Type} (w : World) (e : β → Int) : Own (fun (s : β) W => Res3 w W (e s)) := fun s X Y row hs hg hr =>
  ⟨boxed_own (β := β) _ _ (fun _ => _) s X Y row hs.1 hg hr, boxed_own (β := β) _ _ (fun _ => _) s X Y row hs.2.1 hg hr, boxed_own _ _ (fun s => .int .i64 (e s)) s X Y row hs.2.2 hg hr⟩
theorem cap2_own {β : Type} (B : Nat) (t : ByteArray) (M : Nat) : Own (fun (s : β) W => Cap2 B t M W) := fun s X Y row hs hg hr =>
  ⟨boxed_own (β := β) _ _ (fun _ => _) s X Y row hs.1 hg hr, boxed_own (β := β) _ _ (fun _ => _) s X Y row hs.2 hg hr⟩
theorem ir_own {w : World} {B n : Nat} {t : ByteArray} {M : Nat} (hn : w.heap.size ≤ n) : OwnFrom n (IR w B t M) :=
  OwnFrom.and (Own.from (holdsRow_own w.heap.size B 29 36 3 (fun pre : List Part => pre.length) (fun pre => flatC (pre.map chP)) (fun pre _ => ∀ x ∈ pre, chk (chP x) = 0)) _) (OwnFrom.and (Own.from (res3_own w (fun _ => 0)) _) (OwnFrom.and (ownFrom_below (Nat.le_refl _) hn) (Own.from (cap2_own B t M) _)))
theorem ixr_own {w : World} {n : Nat} (hn : w.heap.size ≤ n) (c : Code) : OwnFrom n (IxR w c) := by
  rintro s X Y row ⟨h1, ⟨e, h2, h3, h4⟩, h5⟩ hg hr
  exact ⟨h1, ⟨e, h2, h3, res3_own (β := Unit) w (fun _ => e) () X Y row h4 hg (fun r er => (hr r er).2)⟩, ownFrom_below (β := Unit) (Nat.le_refl _) hn () X Y row h5 hg hr⟩
theorem Keeps.boxed {X Y : World} (k : Keeps (fun _ => False) X Y) {B : Nat} {t : TypeId} {v : Value} (h : Boxed X B t v) : Boxed Y B t v := k.blk h (fun x => x)
theorem Keeps.res3 {w X Y : World} (k : Keeps (fun _ => False) X Y) {e : Int} (h : Res3 w X e) : Res3 w Y e := ⟨Keeps.boxed k h.1, Keeps.boxed k h.2.1, Keeps.boxed k h.2.2⟩
theorem Keeps.cap2 {X Y : World} (k : Keeps (fun _ => False) X Y) {B : Nat} {t : ByteArray} {M : Nat} (h : Cap2 B t M X) : Cap2 B t M Y := ⟨Keeps.boxed k h.1, Keeps.boxed k h.2⟩
theorem Keeps.grownN {X Y : World} (k : Keeps (fun _ => False) X Y) : X.grownBy Y none := ⟨k.os, k.tape, k.output, k.size, fun i hi _ => k.block i hi (fun x => x)⟩
theorem Keeps.row {X Y : World} (k : Keeps (fun _ => False) X Y) {b e size n : Nat} {v : Value} {xs : List Value} (h : X.ownsRow b e size v n xs) : Y.ownsRow b e size v n xs := by
  refine h.kept (Keeps.grownN k) ?_
  rcases h.2 with ⟨rfl, _⟩ | ⟨g, cap, cur, rfl, _⟩
  · exact .inl rfl
  · exact .inr (by simp [Value.ownBlock])
theorem cells3_new (w : World) (c : Ch) (t : TypeId) : ∀ j u, [Value.int .i64 c.k, .int .i64 c.v, .int .i64 c.w][j]? = some u → (w.alloc (.cells #[.int .i64 c.k, .int .i64 c.v, .int .i64 c.w] t)).cell? ((⟨w.heap.size, 0, none⟩ : Addr).add j) = some u := by
  intro j u h
  rw [add_plain', blkcell (heap_alloc_new w _) j]
  simpa using h

theorem bt_extract (s : ByteArray) (a b j : Nat) (h : a + j < b) : bt (s.extract a b) j = bt s (a + j) := by
  unfold bt
  rw [ByteArray.data_extract, Array.toList_extract]
  simp only [List.extract_eq_take_drop, List.getD]
  rw [List.getElem?_take_of_lt (by omega), List.getElem?_drop]
theorem ext_size (s : ByteArray) (q : Nat) : (s.extract q s.size).size = s.size - q := by rw [ByteArray.size_extract]; omega
theorem chP_at (s : ByteArray) (q i : Nat) (h : (i + 1) * 3 ≤ (s.extract q s.size).size) : chP (pc (s.extract q s.size) i) = chAt s.data.toList (q + i * 3) := by
  have hz := ext_size s q
  unfold chP
  rw [pc_val _ _ h, bt_extract _ _ _ 0 (by omega), bt_extract _ _ _ 1 (by omega), bt_extract _ _ _ 2 (by omega), bt_extract _ _ _ _ (by omega), bt_extract _ _ _ _ (by omega), bt_extract _ _ _ _ (by omega)]
  unfold chAt bt
  rw [show q + (i * 3 + 0) = q + i * 3 by omega, show q + (i * 3 + 1) = q + i * 3 + 1 by omega, show q + (i * 3 + 2) = q + i * 3 + 2 by omega]
theorem upto_chs (s : ByteArray) (q n : Nat) (h : n ≤ (s.size - q) / 3) : (upto (s.extract q s.size) n).map chP = chsAt s.data.toList q n := by
  induction n with
  | zero => rfl
  | succ n ih =>
    rw [upto_succ, List.map_append, ih (by omega), chsAt_succ, List.map_singleton, chP_at s q n (by rw [ext_size]; omega)]

/-- What Read gives behind the number. -/
def RdPost (w : World) (L : List UInt8) (q M : Nat) (e : Ending) (w' : World) : Prop :=
  ∃ v, e = .returned (.tuple #[v, .int .i64 (if bodyE L q M = 0 then (q : Int) + M * 3 else 0), .int .i64 (bodyE L q M)]) ∧
    Rds (fun b => w.heap.size ≤ b) w' v 3 (if bodyE L q M = 0 then chsAt L q M else []).length (flatC (if bodyE L q M = 0 then chsAt L q M else [])) ∧ Keeps (fun _ => False) w w'
theorem RdPost.good {w w' : World} {L : List UInt8} {q M : Nat} {v : Value} (hE : bodyE L q M = 0) (h : Rds (fun b => w.heap.size ≤ b) w' v 3 M (flatC (chsAt L q M))) (hk : Keeps (fun _ => False) w w') :
    RdPost w L q M (.returned (.tuple #[v, .int .i64 ((q : Int) + M * 3), .int .i64 0])) w' := by
  refine ⟨v, ?_, ?_, hk⟩
  · rw [if_pos hE, hE]
  · rw [if_pos hE, chsAt_len]; exact h
theorem RdPost.bad {w w' : World} {L : List UInt8} {q M : Nat} {e : Int} (he : e ≠ 0) (hE : bodyE L q M = e) (hk : Keeps (fun _ => False) w w') :
    RdPost w L q M (.returned (.tuple #[.slice none 0 0, .int .i64 0, .int .i64 e])) w' := by
  subst hE
  refine ⟨.slice none 0 0, ?_, ?_, hk⟩
  · rw [if_neg he]
  · rw [if_neg he]; exact Rds.nil_ _ _ _ _ _
/-- All have come, and each may be. -/
theorem body_all {s : ByteArray} {q M : Nat} {pre : List Part} (hp : pre = upto (s.extract q s.size) (min M ((s.extract q s.size).size / 3))) (hok : ∀ x ∈ pre, chk (chP x) = 0) :
    pre.length = avail s.data.toList q M ∧ pre.map chP = chsAt s.data.toList q (avail s.data.toList q M) ∧ bodyE s.data.toList q M = if avail s.data.toList q M < M then 4 else 0 := by
  have ha : min M ((s.extract q s.size).size / 3) = avail s.data.toList q M := by rw [ext_size, avail]; simp
  rw [ha] at hp
  have hm : pre.map chP = chsAt s.data.toList q (avail s.data.toList q M) := by
    rw [hp]; exact upto_chs s q _ (by rw [← ha, ext_size]; omega)
  refine ⟨by rw [hp, upto_len], hm, ?_⟩
  unfold bodyE
  rw [if_neg]
  have := bad_none (cs := chsAt s.data.toList q (avail s.data.toList q M)) (fun i hi => ?_)
  · rwa [chsAt_len] at this
  · rw [← hm] at hi ⊢
    rw [List.length_map] at hi
    have : (pre.map chP).getD i c0 = chP pre[i] := by simp [List.getD, hi]
    rw [this]
    exact hok _ (List.getElem_mem hi)
/-- One that may not be has come. -/
theorem body_bad {s : ByteArray} {q M : Nat} {pre : List Part} (hp : pre <+: upto (s.extract q s.size) (min M ((s.extract q s.size).size / 3))) {e : Int} (he : e ≠ 0)
    (hx : ∃ pre' x, pre = pre' ++ [x] ∧ (∀ y ∈ pre', chk (chP y) = 0) ∧ chk (chP x) = e) : bodyE s.data.toList q M = e := by
  have ha : min M ((s.extract q s.size).size / 3) = avail s.data.toList q M := by rw [ext_size, avail]; simp
  have hm : (upto (s.extract q s.size) (avail s.data.toList q M)).map chP = chsAt s.data.toList q (avail s.data.toList q M) := upto_chs s q _ (by rw [← ha, ext_size]; omega)
  rw [ha] at hp
  obtain ⟨pre', x, rfl, h1, h2⟩ := hx
  obtain ⟨tl, htl⟩ := hp
  rw [← htl] at hm
  have hlen : pre'.length < avail s.data.toList q M := by
    have := congrArg List.length htl
    rw [upto_len] at this
    simp at this
    omega
  have hg : ∀ i (hi : i < pre'.length), (chsAt s.data.toList q (avail s.data.toList q M)).getD i c0 = chP pre'[i] := by
    intro i hi
    rw [← hm]
    simp [List.getD, hi, List.getElem?_append_left]
  have hgx : (chsAt s.data.toList q (avail s.data.toList q M)).getD pre'.length c0 = chP x := by
    rw [← hm]
    simp [List.getD]
  have hbi := bad_at (cs := chsAt s.data.toList q (avail s.data.toList q M)) (j := pre'.length) (by rw [chsAt_len]; exact hlen) (by rw [hgx, h2]; exact he) (fun i hi => by
    rw [hg i hi]
    exact h1 _ (List.getElem_mem _))
  unfold bodyE
  rw [hbi, if_pos hlen]
  rw [chsAt_at _ _ _ _ hlen] at hgx
  rw [hgx, h2]
theorem boxed_on {W2 w1 : World} {B B' t' k n0 : Nat} {u v v' : Value} {xs : List Value} {tmp : Obj} (h : Boxed W2 B' t' u) (hne : t' ≠ 36) (hBB : B' ≠ B) (hrow : W2.ownsRow n0 36 3 v k xs) (hgrow : (W2.alloc tmp).grownBy w1 v.ownBlock) :
    Boxed (w1.setCell ⟨B, 0, none⟩ v') B' t' u := (Below.heap_setCell _ _ _ B' hBB).trans ((h.alloc tmp).kept hgrow (h.not_row hne hrow))
theorem boxed_far {W : World} {B B' t' : Nat} {u v' : Value} (h : Boxed W B' t' u) (hBB : B' ≠ B) : Boxed (W.setCell ⟨B, 0, none⟩ v') B' t' u := (Below.heap_setCell _ _ _ B' hBB).trans h
theorem res3_store {w W : World} {e : Int} (h : Res3 w W e) (e' : Int) : Res3 w (((W.setCell ⟨w.heap.size, 0, none⟩ (.slice none 0 0)).setCell ⟨w.heap.size + 1, 0, none⟩ (.int .i64 0)).setCell ⟨w.heap.size + 1 + 1, 0, none⟩ (.int .i64 e')) e' :=
  ⟨boxed_far (boxed_far (h.1.set _) (by omega)) (by omega), boxed_far ((boxed_far h.2.1 (by omega)).set _) (by omega), (boxed_far (boxed_far h.2.2 (by omega)) (by omega)).set _⟩
/-- The three results stored. -/
abbrev st3 (w W : World) (u v x : Value) : World := ((W.setCell ⟨w.heap.size, 0, none⟩ u).setCell ⟨w.heap.size + 1, 0, none⟩ v).setCell ⟨w.heap.size + 1 + 1, 0, none⟩ x
theorem st3_same {w W : World} {D : Nat} {o : Obj} (u v x : Value) (hK : W.heap[D]? = some o) (ho : o.isCells = false) : (st3 w W u v x).heap[D]? = some o :=
  (((KeepsOthers.setCell _ _ _).trans (KeepsOthers.setCell _ _ _)).trans (KeepsOthers.setCell _ _ _)).same D _ hK ho
theorem st3_below {w W : World} (u v x : Value) (hB : Below w.heap.size w W) : Below w.heap.size w (st3 w W u v x) :=
  ((hB.setCell (p := ⟨_, 0, none⟩) (by simp) _).setCell (p := ⟨_, 0, none⟩) (by simp) _).setCell (p := ⟨_, 0, none⟩) (by simp; omega) _
theorem st3_boxes {w W : World} {e : Int} (h : Res3 w W e) (u v x : Value) : Boxed (st3 w W u v x) w.heap.size 29 u ∧ Boxed (st3 w W u v x) (w.heap.size + 1) 3 v ∧ Boxed (st3 w W u v x) (w.heap.size + 1 + 1) 26 x :=
  ⟨boxed_far (boxed_far (h.1.set _) (by omega)) (by omega), boxed_far ((boxed_far h.2.1 (by omega)).set _) (by omega), (boxed_far (boxed_far h.2.2 (by omega)) (by omega)).set _⟩
theorem row_set {W : World} {B t b k : Nat} {u x v : Value} {xs : List Value} (hb : Boxed W B t u) (ht : t ≠ 36) (h : W.ownsRow b 36 3 v k xs) : (W.setCell ⟨B, 0, none⟩ x).ownsRow b 36 3 v k xs :=
  h.kept (grownBy_setCell' W B x) (.inr (hb.not_row ht h).symm)
theorem st3_row {w W : World} {e : Int} (h : Res3 w W e) (u v x : Value) {b k : Nat} {y : Value} {xs : List Value} (hr : W.ownsRow b 36 3 y k xs) : (st3 w W u v x).ownsRow b 36 3 y k xs :=
  row_set (boxed_far (boxed_far h.2.2 (by omega)) (by omega)) (by decide) (row_set (boxed_far h.2.1 (by omega)) (by decide) (row_set h.1 (by decide) hr))
theorem put_row {W : World} {D b k : Nat} {o o' : Obj} {y : Value} {xs : List Value} (hr : W.ownsRow b 36 3 y k xs) (hK : W.heap[D]? = some o) (ho : o.isCells = false) : (W.putObj D o').ownsRow b 36 3 y k xs := ownsRow_putObj hr o' hK ho
theorem res14 (tmps : Array Value) (W : World) (a b c : Nat) (u v x : Value) (h0 : tmps.getD 4 undef = .pointer (some ⟨a, 0, none⟩)) (h1 : tmps.getD 5 undef = .pointer (some ⟨b, 0, none⟩)) (h2 : tmps.getD 6 undef = .pointer (some ⟨c, 0, none⟩))
    (q0 : W.cell? ⟨a, 0, none⟩ = some u) (q1 : W.cell? ⟨b, 0, none⟩ = some v) (q2 : W.cell? ⟨c, 0, none⟩ = some x) : (results Try.f14 tmps).run Try.prog W = .ok (.tuple #[u, v, x]) W := by
  simp only [Array.getD_eq_getD_getElem?] at h0 h1 h2
  simp [results, Try.results14, go_sem, h0, h1, h2, q0, q1, q2]
theorem boxed_put {W : World} {B t D : Nat} {v : Value} (h : Boxed W B t v) (hD : B < D) (o : Obj) : Boxed (W.putObj D o) B t v := (World.putObj_heap_other (fun e => by omega)).trans h

set_option maxHeartbeats 4000000 in
set_option maxRecDepth 100000 in
theorem p_read_main (s : ByteArray) (p : Nat) (w : World) (hs : s.size ≤ 8000) (hp : p + 2 ≤ s.size) (x0 x1 : Nat) (hx0 : s[p].toNat = x0) (hx1 : s[p + 1].toNat = x1) (M : Nat) (hMM : 256 * x0 + x1 = M) (hM2 : M ≤ 2000) :
    Calls Try.prog 14 #[.string s, .int .i64 p] w fun e w' => RdPost w s.data.toList (p + 2) M e w' := by
  have h1 : ¬ ((s.size : Int) < p) := by omega
  have h2 : ¬ ((s.size : Int) - p < 2) := by omega
  have h3 : p < s.size := by omega
  have h4 : p + 1 < s.size := by omega
  have b1 : (x0 : Int) < 256 := by have := s[p].toNat_lt; omega
  have b2 : (x1 : Int) < 256 := by have := s[p + 1].toNat_lt; omega
  have b3 : ((s.size : Int)) ≤ 8000 := by omega
  have z1 : (0 : Int) ≤ (p : Int) + 1 := by omega
  have z2 : (p : Int) + 1 < (s.size : Int) := by omega
  have z3 : ((p : Int) + 1).toNat = p + 1 := by omega
  refine (callsIn_wide (n := 5)).1 ?_
  refine callsIn_of_wp_marks Try.func14 rfl trivial ?_ rfl
  simp only [Try.ntmps14, List.size_toArray, List.length_cons, List.length_nil, Nat.reduceAdd, Nat.reduceSub, Array.replicate_succ, Array.replicate_zero, List.push_toArray, List.append_toArray, List.nil_append, List.cons_append]
  refine wpIn_wide.2 ?_
  go_wp2_with fail
  have hor := or_join' x0 x1 (by omega) b1 (by omega) b2
  have bL := blkalloc (blkalloc (heap_alloc_new w (.cells #[.slice none 0 0] 29)) (.cells #[.int .i64 0] 3)) (.cells #[.int .i64 0] 26)
  have bT : (((w.alloc (.cells #[.slice none 0 0] 29)).alloc (.cells #[.int .i64 0] 3)).alloc (.cells #[.int .i64 0] 26)).heap[w.heap.size + 1]? = some (.cells #[.int .i64 0] 3 (0, 0)) := by
    have := blkalloc (heap_alloc_new (w.alloc (.cells #[.slice none 0 0] 29)) (.cells #[.int .i64 0] 3)) (.cells #[.int .i64 0] 26)
    rwa [World.size_alloc] at this
  have bE : (((w.alloc (.cells #[.slice none 0 0] 29)).alloc (.cells #[.int .i64 0] 3)).alloc (.cells #[.int .i64 0] 26)).heap[w.heap.size + 1 + 1]? = some (.cells #[.int .i64 0] 26 (0, 0)) := by
    have := heap_alloc_new ((w.alloc (.cells #[.slice none 0 0] 29)).alloc (.cells #[.int .i64 0] 3)) (.cells #[.int .i64 0] 26)
    rwa [World.size_alloc, World.size_alloc] at this
  have k3 : Keeps (fun _ => False) w (((w.alloc (.cells #[.slice none 0 0] 29)).alloc (.cells #[.int .i64 0] 3)).alloc (.cells #[.int .i64 0] 26)) := (((Keeps.refl _ _).alloc _).alloc _).alloc _
  generalize (((w.alloc (.cells #[.slice none 0 0] 29)).alloc (.cells #[.int .i64 0] 3)).alloc (.cells #[.int .i64 0] 26)) = w3 at *
  refine wp_qall (w0 := w3) ⟨0, rfl⟩ (by kernel_rfl) (by kernel_rfl) ?_
  repeat go_big_quiet_step (fail)
  refine wpQuiet_nil (fun nq => ?_)
  have hM : (x0 : Int) * 256 + x1 = M := by omega
  have k4 := k3.drewN nq
  have bL' : (w3.drewN nq).heap[w.heap.size]? = _ := bL
  have bT' : (w3.drewN nq).heap[w.heap.size + 1]? = _ := bT
  have bE' : (w3.drewN nq).heap[w.heap.size + 1 + 1]? = _ := bE
  have z4 : (0 : Int) ≤ (p : Int) + 2 := by omega
  have z5 : (p : Int) + 2 ≤ (s.size : Int) := by omega
  have z6 : ((p : Int) + 2).toNat = p + 2 := by omega
  generalize w3.drewN nq = w4 at *
  rw [hM]
  clear hM hor hMM
  go_wp2_with (go_at_call 20; refine (p_parts _ _ _).mono ?_; rintro e w' ⟨rfl, rfl⟩)
  have z4' := blklt bE'
  generalize ht : s.extract (p + 2) s.size = t
  have htz : t.size ≤ 8000 := by rw [← ht, ByteArray.size_extract]; omega
  have HTT := Lib.hid ht
  clear ht
  have cM := heap_alloc_new ((w4.alloc (.cells #[.slice none 0 0] 29)).alloc (.cells #[.string t] 9)) (.cells #[.int .i64 M] 3)
  rw [World.size_alloc, World.size_alloc] at cM
  have cT := blkalloc (heap_alloc_new (w4.alloc (.cells #[.slice none 0 0] 29)) (.cells #[.string t] 9)) (.cells #[.int .i64 M] 3)
  rw [World.size_alloc] at cT
  have cL := blkalloc (blkalloc (heap_alloc_new w4 (.cells #[.slice none 0 0] 29)) (.cells #[.string t] 9)) (.cells #[.int .i64 M] 3)
  have dL := blkalloc (blkalloc (blkalloc bL' (.cells #[.slice none 0 0] 29)) (.cells #[.string t] 9)) (.cells #[.int .i64 M] 3)
  have dT := blkalloc (blkalloc (blkalloc bT' (.cells #[.slice none 0 0] 29)) (.cells #[.string t] 9)) (.cells #[.int .i64 M] 3)
  have dE := blkalloc (blkalloc (blkalloc bE' (.cells #[.slice none 0 0] 29)) (.cells #[.string t] 9)) (.cells #[.int .i64 M] 3)
  have k5 : Keeps (fun _ => False) w (((w4.alloc (.cells #[.slice none 0 0] 29)).alloc (.cells #[.string t] 9)).alloc (.cells #[.int .i64 M] 3)) := ((k4.alloc _).alloc _).alloc _
  have z5' : w4.heap.size + 3 = (((w4.alloc (.cells #[.slice none 0 0] 29)).alloc (.cells #[.string t] 9)).alloc (.cells #[.int .i64 M] 3)).heap.size := by simp
  generalize (((w4.alloc (.cells #[.slice none 0 0] 29)).alloc (.cells #[.string t] 9)).alloc (.cells #[.int .i64 M] 3)) = w5 at *
  have hbel : Below w.heap.size w w5 := k5.toBelow (fun _ h => h.elim) (Nat.le_refl _)
  refine (wpIn_wide (n := 5)).1 ?_
  refine wpIn_rangeFunc_ownG rfl (by omega) (gf := 23) (lb := #[.pointer (some ⟨w4.heap.size + 1 + 1, 0, none⟩), .pointer (some ⟨w4.heap.size + 1, 0, none⟩)]) rfl trivial (enters_of Try.func23 (by kernel_rfl) rfl)
    (parts1_stops Fence.wide 4 trivial rfl (by omega) (w4.heap.size + 1 + 1) (w4.heap.size + 1) t M hM2 (by omega) w5 (by omega) (by omega) ((blkcell cM 0).trans rfl) ((blkcell cT 0).trans rfl)) kpB_t (kpB_b (by omega) (by omega)) (Below.refl _ _) (fun _ => rfl)
    (IR w w4.heap.size t M) (IxR w) (ir_own (Nat.le_trans (Nat.le_refl _) k5.size)) (ixr_own (k5.size))
    ⟨⟨_, cL, World.ownsRow_nil _ _ _ _, fun x hx => by cases hx⟩, ⟨dL, dT, dE⟩, hbel, cT, cM⟩
    (fun x => { tmps := #[.string s, .int .i64 p, undef, undef, .pointer (some ⟨w.heap.size, 0, none⟩), .pointer (some ⟨w.heap.size + 1, 0, none⟩), .pointer (some ⟨w.heap.size + 1 + 1, 0, none⟩), .int .i64 M, .pointer (some ⟨w4.heap.size, 0, none⟩), .string x.1, undef, undef, .bool (decide ((p : Int) < 0)), .int .i64 p, .bool (decide ((p : Int) < 0)), .bool (decide ((p : Int) < 0)), .int .i64 p, .string s, .int .i64 s.size, .bool false, .bool (decide ((p : Int) < 0)), .bool false, .string s, .int .i64 s.size, .int .i64 p, .int .i64 ((s.size : Int) - p), .bool false, .string s, .int .i64 p, .int .u8 x0, .int .i64 x0, .int .i64 ((x0 : Int) * 256), .string s, .int .i64 p, .int .i64 ((p : Int) + 1), .int .u8 x1, .int .i64 x1, .int .i64 M, .int .i64 M, .bool (decide (2000 < (M : Int))), .string s, .int .i64 p, .int .i64 ((p : Int) + 2), .string (s.extract (p + 2) s.size), .int .i64 M, .func (.func 23) #[] #[.pointer (some ⟨w4.heap.size + 1 + 1, 0, none⟩), .pointer (some ⟨w4.heap.size + 1, 0, none⟩)], .string x.1, undef, undef, undef, undef, undef, undef, undef, undef, undef, undef, undef, undef, undef, undef, undef, undef, undef, undef, undef, undef, undef], defers := [] }) ?assign ?body ?done ?stop
  case assign =>
    intro l x W K hK
    rw [HTT.out] at hK
    gi_wp2
    exact hK
  case body =>
    rintro l pre x W ⟨⟨v, hv, hrow, hok⟩, hres, hB, hcap⟩ hlt
    have hch : mk3 (bt x.1 0) (bt x.1 1) (bt x.1 2) = chP x := rfl
    have hone := p_one x.1 W x.2
    rw [hch] at hone
    obtain ⟨i0, hi, hz0, hz1, hz2⟩ := info_parts (Try.infoC 36 (.inr rfl))
    gi_wp2
    refine ⟨trivial, ?_⟩
    refine (CallsIn.inRound l (callsIn_wide.2 hone)).mono ?_
    rintro e W1 ⟨rfl, k1⟩
    generalize hcc : chP x = c at *
    have HO := Lib.hid hok
    have HL := Lib.hid hlt
    have HC := Lib.hid hcc
    clear hok hlt hcc hone hch
    have hall := heap_alloc_new W1 (.cells #[.int .i64 c.k, .int .i64 c.v, .int .i64 c.w] 36)
    gi_wp2
    refine ⟨trivial, ?_⟩
    refine (CallsIn.inRound l (callsIn_wide.2 (p_check c _))).mono ?_
    rintro e W2 ⟨rfl, k2⟩
    have k3 : Keeps (fun _ => False) W W2 := (k1.alloc _).trans' k2
    have hbox : Boxed W2 W1.heap.size 36 (.int .i64 c.k) ∨ True := .inr trivial
    have hall2 := k2.blk hall (fun x => x)
    clear hbox
    have hv2 := Keeps.boxed k3 hv
    have hres2 := Keeps.res3 k3 hres
    have hcap2 := Keeps.cap2 k3 hcap
    have hrow2 := Keeps.row k3 hrow
    have hB2 : Below w.heap.size w W2 := hB.trans (k3.toBelow (fun _ h => h.elim) hB.size)
    clear hv hres hrow hB hall k1 k2
    by_cases hk : chk c = 0
    · rw [hk]
      have hvc := hv2.cell
      have hc0 : W2.cell? ⟨W1.heap.size, 0, none⟩ = some (.int .i64 c.k) := (blkcell hall2 0).trans rfl
      have hc1 : W2.cell? ⟨W1.heap.size, 1, none⟩ = some (.int .i64 c.v) := (blkcell hall2 1).trans rfl
      have hc2 : W2.cell? ⟨W1.heap.size, 2, none⟩ = some (.int .i64 c.w) := (blkcell hall2 2).trans rfl
      have hpl : pre.length < 2000 := by have := HL.out; omega
      have HK := Lib.hid hk
      clear hk
      gi_wp2_with (gi_at_builtin; refine wpListIn_append_own _ rfl _ _ 29 rfl w.heap.size 36 i0 (.agg #[.int .i64 0, .int .i64 0, .int .i64 0]) 3 24 Try.underlying29 hi hz0 hz1 hz2 rfl (by decide) _ _ _ rfl (hrow2.alloc _) ⟨W2.heap.size, 0, none⟩ 1 1 [.int .i64 c.k, .int .i64 c.v, .int .i64 c.w] rfl rfl (cells3_new _ _ _) (by simp [Value.oneCell']) (by unfold maxLen; omega) (by omega) (by have := hB2.size; simp; omega) ?_; intro v' w1 hown' hgrow _; obtain ⟨g', cap', rfl⟩ := ownsRow_succ hown'; obtain ⟨hv1, hv3, hr3, hk3, hb3⟩ := hv2.appended (by decide) hrow2 hB2.size (by omega) hown' hgrow; have hc1' := hv1.cell; have hf1 := hv1.frozen)
      refine ⟨(KeepsFrom.of_grownBy (Keeps.grownN k3) (by simp)).trans (hk3.from _), ?_, ?_⟩
      · exact hcap.kp ⟨boxed_on hcap2.1 (by decide) (by omega) hrow2 hgrow, boxed_on hcap2.2 (by decide) (by omega) hrow2 hgrow⟩
      · refine ⟨⟨_, hv3, ?_, ?_⟩, ⟨boxed_on hres2.1 (by decide) (by omega) hrow2 hgrow, boxed_on hres2.2.1 (by decide) (by omega) hrow2 hgrow, boxed_on hres2.2.2 (by decide) (by omega) hrow2 hgrow⟩, hB2.trans hb3, ⟨boxed_on hcap2.1 (by decide) (by omega) hrow2 hgrow, boxed_on hcap2.2 (by decide) (by omega) hrow2 hgrow⟩⟩
        · rw [List.length_append, List.map_append, flatC_app]
          simpa [flatC, HC.out] using hr3
        · intro y hy
          rcases List.mem_append.1 hy with h | h
          · exact HO.out y h
          · rw [List.mem_singleton] at h; subst h; rw [HC.out]; exact HK.out
    · have q1 := hres2.1.cell
      have q2 := hres2.1.frozen
      have q3 := hres2.2.1.cell
      have q4 := hres2.2.1.frozen
      have q5 := hres2.2.2.cell
      have q6 := hres2.2.2.frozen
      gi_wp2
      refine ⟨(KeepsFrom.of_grownBy (Keeps.grownN k3) (by simp)).trans ((((KeepsOthers.setCell _ _ _).trans (KeepsOthers.setCell _ _ _)).trans (KeepsOthers.setCell _ _ _)).from _), rfl, ⟨chk c, hk, ⟨pre, x, rfl, HO.out, by rw [HC.out]⟩, res3_store hres2 _⟩, ?_⟩
      exact ((hB2.setCell (p := ⟨_, 0, none⟩) (by simp) _).setCell (p := ⟨_, 0, none⟩) (by simp) _).setCell (p := ⟨_, 0, none⟩) (by simp; omega) _
  case done =>
    rintro D pre W hD hpre ⟨⟨v, hv, hrow, hok⟩, hres, hB, hcap⟩ hK
    have q1 := hres.1.cell
    have q2 := hres.1.frozen
    have q3 := hres.2.1.cell
    have q4 := hres.2.1.frozen
    have q5 := hres.2.2.cell
    have q6 := hres.2.2.frozen
    have hvc := hv.cell
    obtain ⟨A, cp, rfl⟩ := own_slice' hrow
    have hDw : w.heap.size + 3 ≤ D := by omega
    rw [← HTT.out] at hpre
    obtain ⟨e1, e2, e3⟩ := body_all hpre hok
    have HP := Lib.hid hpre
    have HO := Lib.hid hok
    clear hpre hok
    by_cases hlm : pre.length < M
    · have hlm' : (pre.length : Int) < M := by omega
      rw [if_pos (by omega)] at e3
      have H3 := Lib.hid e3
      clear e1 e2 e3
      gi_wp2
      go_wp2
      have hK' := st3_same (w := w) (.slice none 0 0) (.int .i64 0) (.int .i64 4) hK rfl
      have hR := st3_boxes hres (.slice none 0 0) (.int .i64 0) (.int .i64 4)
      refine ⟨by simp, .inl ⟨_, _, rfl, run_takeDeferred hK', ?_⟩⟩
      refine ⟨_, res14 _ _ _ _ _ _ _ _ rfl rfl rfl (boxed_put hR.1 (by omega) _).cell (boxed_put hR.2.1 (by omega) _).cell (boxed_put hR.2.2 (by omega) _).cell, ?_⟩
      refine RdPost.bad (by decide) H3.out ?_
      exact Keeps.below ((st3_below _ _ _ hB).trans (belowK_b (w := w) (Nat.le_refl _) _ D _ _ (by omega) hK' rfl rfl)) _
    · have hlm' : ¬ (pre.length : Int) < M := by omega
      rw [if_neg (by omega)] at e3
      have H3 := Lib.hid e3
      have ha : avail s.data.toList (p + 2) M = M := by unfold avail at *; omega
      rw [ha] at e1 e2
      have H2 := Lib.hid e2
      rw [e1] at hrow hv hvc hlm'
      clear ha e2 e3
      gi_wp2
      go_wp2
      have hK' := st3_same (w := w) (.slice A M cp) (.int .i64 ((p : Int) + 2 + M * 3)) (.int .i64 0) hK rfl
      have hR := st3_boxes hres (.slice A M cp) (.int .i64 ((p : Int) + 2 + M * 3)) (.int .i64 0)
      have hrw := put_row (o' := .deferred none) (st3_row hres (.slice A M cp) (.int .i64 ((p : Int) + 2 + M * 3)) (.int .i64 0) hrow) hK' rfl
      refine ⟨by simp, .inl ⟨_, _, rfl, run_takeDeferred hK', ?_⟩⟩
      refine ⟨_, res14 _ _ _ _ _ _ _ _ rfl rfl rfl (boxed_put hR.1 (by omega) _).cell (boxed_put hR.2.1 (by omega) _).cell (boxed_put hR.2.2 (by omega) _).cell, ?_⟩
      have hg := RdPost.good (w := w) H3.out (v := .slice A M cp) (by have := Rds.own hrw; rw [H2.out] at this; exact this) (Keeps.below ((st3_below _ _ _ hB).trans (belowK_b (w := w) (Nat.le_refl _) _ D _ _ (by omega) hK' rfl rfl)) _)
      have hcast : ((p + 2 : Nat) : Int) + M * 3 = (p : Int) + 2 + M * 3 := by omega
      rw [hcast] at hg
      exact hg
  case stop =>
    rintro D c pre W hD hpre ⟨rfl, ⟨e, he0, hx, hres⟩, hB⟩ hK
    have q1 := hres.1.cell
    have q3 := hres.2.1.cell
    have q5 := hres.2.2.cell
    rw [← HTT.out] at hpre
    have HE := Lib.hid (body_bad hpre he0 hx)
    clear hpre hx
    gi_wp2
    refine ⟨by simp, .inl ⟨_, _, rfl, run_takeDeferred hK, ?_⟩⟩
    refine ⟨_, res14 _ _ _ _ _ _ _ _ rfl rfl rfl (boxed_put hres.1 (by omega) _).cell (boxed_put hres.2.1 (by omega) _).cell (boxed_put hres.2.2 (by omega) _).cell, ?_⟩
    refine RdPost.bad he0 HE.out ?_
    refine Keeps.below (hB.trans (belowK_b (w := w) (Nat.le_refl _) W D _ _ (by omega) hK rfl rfl)) _
end Go.Proofs.Ytbfdiejcbiocpaa

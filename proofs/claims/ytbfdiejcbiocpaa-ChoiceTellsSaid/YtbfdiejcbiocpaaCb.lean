/- strings.Builder: copyCheck and Write, of a builder that the call has made; choices' bytes, of the program and of the document. -/
import Derived.Test.YtbfdiejcbiocpaaCa
import Derived.Test.YtbfdiejcbiocpaaShelf
import Derived.Lib.Builder
import Derived.Laws.Externs
import Derived.WalkSpells
import Derived.Laws.OwnMore
import Derived.Laws.IdiomStrings
namespace Go.Proofs.Ytbfdiejcbiocpaa
open Go.RowKit
set_option linter.unusedVariables false
set_option linter.unusedSimpArgs false

theorem Try.sizeB : (Try.prog.info? 50).map (fun i => i.size) = some 2 := by kernel_rfl

set_option maxHeartbeats 1000000 in
set_option maxRecDepth 100000 in
theorem sb_copy_used (b : Nat) (w : World) (h0 : w.cell? ⟨b, 0, none⟩ = some (.pointer (some ⟨b, 0, none⟩))) :
    Calls Try.prog 22 #[.pointer (some ⟨b, 0, none⟩)] w fun e w' => e = .returned (.tuple #[]) ∧ w' = w := by
  obtain ⟨j, hj, _⟩ := Option.map_eq_some_iff.1 Try.sizeB
  go_enter Try.func22, Try.ntmps22
  go_wp2
  rw [Lib.run_neq_ptr_same w _ Try.underlying47 hj]
  go_wp2
  go_end0
  exact ⟨rfl, rfl⟩

set_option maxHeartbeats 1000000 in
set_option maxRecDepth 100000 in
theorem sb_copy_fresh (b : Nat) (w : World) (h0 : w.cell? ⟨b, 0, none⟩ = some (.pointer none)) (hsh : w.shape? b = some (50, 2)) (hfz : w.frozen? ⟨b, 0, none⟩ = false) :
    Calls Try.prog 22 #[.pointer (some ⟨b, 0, none⟩)] w fun e w' => e = .returned (.tuple #[]) ∧ w' = w.setCell ⟨b, 0, none⟩ (.pointer (some ⟨b, 0, none⟩)) := by
  obtain ⟨j, hj, hjs⟩ := Option.map_eq_some_iff.1 Try.sizeB
  go_enter Try.func22, Try.ntmps22
  go_wp2
  rw [Lib.run_to_unsafe w ⟨b, 0, none⟩ Try.underlying47 Try.underlying63 hj (by rw [hjs]; decide) hsh (Nat.zero_lt_succ 1)]
  simp only [Result.andThen]
  rw [Oper.upon_value]
  go_wp2
  rw [run_callFunc_extern Try.func24 (by kernel_rfl) (by kernel_rfl) (by kernel_rfl) (e := Extern.AbiNoEscape.same) (by kernel_rfl)]
  rw [Lib.run_noEscape]
  simp only [Result.andThen]
  rw [Oper.upon_value]
  go_wp2
  rw [Lib.run_from_unsafe w ⟨b, 0, none⟩ Try.underlying63 Try.underlying47 hj hsh (by kernel_rfl)]
  simp only [Result.andThen]
  rw [Oper.upon_value]
  go_wp2
  go_end0
  exact ⟨rfl, rfl⟩

theorem sb_copy (B b : Nat) (bs : List Value) (w : World) (h : Lib.IsBuilder 50 5 B b bs w) :
    Calls Try.prog 22 #[.pointer (some ⟨b, 0, none⟩)] w fun e w' => e = .returned (.tuple #[]) ∧ Lib.BuilderAt 50 5 B b (.pointer (some ⟨b, 0, none⟩)) bs w' ∧ Keeps (fun k => k = b) w w' := by
  rcases h with h | h
  · refine (sb_copy_fresh b w h.cell0 h.shape h.frozen0).mono ?_
    rintro e w' ⟨rfl, rfl⟩
    exact ⟨rfl, h.used _, (Keeps.refl (fun k => k = b) w).setCell (.inl rfl) _⟩
  · refine (sb_copy_used b w h.cell0).mono ?_
    rintro e w' ⟨rfl, rfl⟩
    exact ⟨rfl, h, Keeps.refl _ _⟩

theorem Try.infoB : (Try.prog.info? 5).map (fun i => (i.zero, i.size, i.bytes)) = some (some (.int .u8 0), 1, 1) := by kernel_rfl

set_option maxHeartbeats 1000000 in
set_option maxRecDepth 100000 in
theorem sb_write (B b : Nat) (bs : List Value) (y : Value) (m : Nat) (news : List Value) (w : World) (h : Lib.IsBuilder 50 5 B b bs w) (hn : Rds (fun k => k ≠ b) w y 1 m news) (h1 : ∀ u ∈ news, u.oneCell' = true) (hlen : bs.length + m ≤ 140737488355328) (hBw : B ≤ w.heap.size) :
    Calls Try.prog 18 #[.pointer (some ⟨b, 0, none⟩), y] w fun e w' => e = .returned (.tuple #[.int .i64 m, .nilIface]) ∧ Lib.IsBuilder 50 5 B b (bs ++ news) w' ∧ Keeps (fun k => B ≤ k) w w' := by
  obtain ⟨Ay, cy, rfl⟩ := hn.slice_
  have hnl : news.length = m := by have := hn.1; omega
  go_enter Try.func18, Try.ntmps18
  go_wp2_with fail
  refine (sb_copy B b bs _ h).mono ?_
  rintro e w1 ⟨rfl, hb1, k1⟩
  obtain ⟨hB, v, hbk, hown, hne⟩ := hb1
  obtain ⟨A, c, rfl⟩ := own_slice' hown
  have cc0 : w1.cell? ⟨b, 0, none⟩ = some _ := (blkcell hbk 0).trans rfl
  have cc1 : w1.cell? ⟨b, 1, none⟩ = some _ := (blkcell hbk 1).trans rfl
  have hn1 := hn.keeps k1 (fun k hk _ => hk)
  have hz := k1.size
  go_wp2_with (at_builtin; go_loud (refine wpList_append_rds _ rfl _ _ 48 rfl B 5 (.int .u8 0) 1 1 Try.underlying48 Try.infoB rfl (by decide) _ _ bs rfl hown _ _ m news rfl hn1 ?c1 ?c2 ?c3 ?c4 ?_))
  case c1 => exact h1
  case c2 => unfold maxLen; omega
  case c3 => omega
  case c4 => omega
  intro A2 c2 w2 hown2 hgrow2 hat2
  have hb2 := grown_blk hgrow2 hbk (fun e => hne e.symm)
  have f1 := blkfrozen hb2 1
  have d1 : w2.cell? ⟨b, 1, none⟩ = some _ := (blkcell hb2 1).trans rfl
  have hne2 : (Value.slice A2 (bs.length + m) c2).ownBlock ≠ some b := by
    rcases hat2 with h | h
    · rw [h]; exact hne
    · rw [h]; intro e; injection e with e; have := blklt hbk; omega
  have k2 : Keeps (fun k => B ≤ k) w1 w2 := (Keeps.refl _ w1).grown hgrow2 (fun k hk _ => (hown.lt k hk).1)
  go_wp2
  go_ret2
  refine ⟨rfl, .inr (Lib.BuilderAt.put (T := 50) (e := 5) (p := .pointer (some ⟨b, 0, none⟩)) hB hb2 (bs' := bs ++ news) (by rw [List.length_append, hnl]; exact hown2) (by decide)), ?_⟩
  exact ((k1.mono (fun k _ e => by subst e; exact hB)).trans' k2).setCell (.inl hB) _

theorem Rds.still' {ok : Nat → Prop} {w w' : World} {v : Value} {size m : Nat} {cs : List Value} (h : Rds ok w v size m cs) (hk : Keeps (fun _ => False) w w') : Rds ok w' v size m cs := h.keeps hk (fun _ _ _ x => x)
theorem isB_still {B b : Nat} {bs : List Value} {w w' : World} (h : Lib.IsBuilder 50 5 B b bs w) (hk : Keeps (fun _ => False) w w') : Lib.IsBuilder 50 5 B b bs w' := by
  have key : ∀ p, Lib.BuilderAt 50 5 B b p bs w → Lib.BuilderAt 50 5 B b p bs w' := by
    rintro p ⟨hB, v, hbk, hown, hne⟩
    refine ⟨hB, v, hk.blk hbk (fun x => x), ?_, hne⟩
    exact hown.kept (row := some b) ⟨hk.os, hk.tape, hk.output, hk.size, fun k hk2 _ => hk.block k hk2 (fun x => x)⟩ (.inr hne)
  rcases h with h | h
  · exact .inl (key _ h)
  · exact .inr (key _ h)
theorem chCells' {ok S : Nat → Prop} {w w' : World} {A : Option Addr} {m c j : Nat} {cs : List Ch} (h : Rds ok w (.slice A m c) 3 m (flatC cs)) (hk : Keeps S w w') (hS : ∀ k, k < w.heap.size → ¬ S k) (hj : j < m) :
    ∃ b o, A = some ⟨b, o, none⟩ ∧ w'.cell? ⟨b, o + j * 3, none⟩ = some (.int .i64 (cs.getD j c0).k) ∧ w'.cell? ⟨b, o + j * 3 + 1, none⟩ = some (.int .i64 (cs.getD j c0).v) ∧ w'.cell? ⟨b, o + j * 3 + 2, none⟩ = some (.int .i64 (cs.getD j c0).w) := by
  obtain ⟨_, A', c', hv, _, hA⟩ := h.at_C
  injection hv with h1 h2 h3
  subst h1
  obtain ⟨b, o, e, hlt, hc⟩ := hA (by omega)
  obtain ⟨x1, x2, x3⟩ := hc j hj
  exact ⟨b, o, e, (hk.cell (p := ⟨b, _, none⟩) hlt (hS b hlt)).trans x1, (hk.cell (p := ⟨b, _, none⟩) hlt (hS b hlt)).trans x2, (hk.cell (p := ⟨b, _, none⟩) hlt (hS b hlt)).trans x3⟩
theorem keeps_below {B : Nat} {w w' : World} (h : Below B w w') : Keeps (fun k => B ≤ k) w w' := ⟨h.os, h.tape, h.output, h.size, fun k hk hs => h.block k (by omega)⟩
theorem ownsRow_form' {w : World} {base size n : Nat} {e : TypeId} {v : Value} {xs : List Value} (h : w.ownsRow base e size v n xs) (hn : 0 < n) : ∃ g cap, v = .slice (some ⟨g, 0, none⟩) n cap := by
  rcases h.2 with ⟨_, h0⟩ | ⟨g, cap, _, hv, _⟩
  · omega
  · exact ⟨g, cap, hv⟩
theorem byteCells_get (l : List UInt8) (j : Nat) (hj : j < l.length) : (Lib.byteCells l)[j]? = some (.int .u8 (l[j].toNat : Int)) := by
  rw [Lib.byteCells, List.getElem?_map, List.getElem?_eq_getElem hj]; rfl
theorem rds_n2 (w : World) (o : Obj) (cs : Array Value) (t : TypeId) (b n : Nat) (hn : cs.size = n) (hb : b < w.heap.size) : Rds (fun k => k ≠ b) ((w.alloc o).alloc (.cells cs t)) (.slice (some ⟨w.heap.size + 1, 0, none⟩) n n) 1 n cs.toList := by
  subst hn
  have hx := heap_alloc_new (w.alloc o) (.cells cs t)
  rw [World.size_alloc] at hx
  refine ⟨by simp, _, _, rfl, Nat.le_refl _, .inr ⟨_, 0, rfl, by show w.heap.size + 1 ≠ b; omega, by simp, fun j u hj => ?_⟩⟩
  rw [Nat.zero_add, blkcell hx j]
  simpa using hj
theorem rds_n (w : World) (cs : Array Value) (t : TypeId) (b n : Nat) (hn : cs.size = n) (hb : b < w.heap.size) : Rds (fun k => k ≠ b) (w.alloc (.cells cs t)) (.slice (some ⟨w.heap.size, 0, none⟩) n n) 1 n cs.toList := by
  subst hn
  refine ⟨by simp, _, _, rfl, Nat.le_refl _, .inr ⟨_, 0, rfl, by show w.heap.size ≠ b; omega, by simp, fun j u hj => ?_⟩⟩
  rw [Nat.zero_add, blkcell (heap_alloc_new w _) j]
  simpa using hj

set_option maxHeartbeats 1000000 in
set_option maxRecDepth 100000 in
theorem p_bytes (v : Value) (cs : List Ch) (ok : Nat → Prop) (w : World) (h : Rds ok w v 3 cs.length (flatC cs)) :
    Calls Try.prog 10 #[v] w fun e w' => e = .returned (.string ⟨(bytesC cs).toArray⟩) ∧ Keeps (fun _ => False) w w' := by
  obtain ⟨A, c, rfl⟩ := h.slice_
  by_cases he : allE cs = 0
  · have hok := allE_ok he
    rw [bytesC, if_pos he]
    have HE := Lib.hid he
    have HOK := Lib.hid hok.2
    have hl := hok.1
    have hl' : (cs.length : Int) ≤ 2000 := by omega
    clear he hok
    go_enter Try.func10, Try.ntmps10
    go_wp2_with fail
    refine (p_all _ cs ok _ h).mono ?_
    rintro e w1 ⟨rfl, k1⟩
    rw [HE.out]
    have hB0 := Lib.fresh_isBuilder 50 5 w1
    have hr1 := h.still' k1
    have kA : Keeps (fun k => w1.heap.size ≤ k) w1 (w1.alloc (.cells #[.pointer none, .slice none 0 0] 50)) := (Keeps.refl _ _).alloc _
    have zA : w1.heap.size < (w1.alloc (.cells #[.pointer none, .slice none 0 0] 50)).heap.size := by simp
    have hb0 : ∀ o, Lib.IsBuilder 50 5 w1.heap.size w1.heap.size [] ((w1.alloc (.cells #[.pointer none, .slice none 0 0] 50)).alloc o) := fun o => isB_still hB0 ((Keeps.refl (fun _ => False) _).alloc o)
    generalize hwA : w1.alloc (.cells #[.pointer none, .slice none 0 0] 50) = wA at *
    go_wp2_with fail
    refine (sb_write w1.heap.size w1.heap.size [] _ 2 _ _ (hb0 _) (rds_n _ _ _ _ 2 rfl zA) ?c1 (by simp) (by simp; omega)).mono ?_
    case c1 => intro u hu; simp at hu; rcases hu with rfl | rfl <;> rfl
    rintro e w2 ⟨rfl, hB2, k2⟩
    have k12 : Keeps (fun k => w1.heap.size ≤ k) w1 w2 := (kA.alloc _).trans' k2
    have hhead : [] ++ #[Value.int .u8 ((cs.length : Int) / 256), .int .u8 ((cs.length : Int) % 256)].toList = Lib.byteCells (headC cs) := by
      simp only [headC, Lib.byteCells, List.map_cons, List.map_nil, b8_int, List.nil_append]
      rw [Int.emod_eq_of_lt (show 0 ≤ (cs.length : Int) / 256 by omega) (by omega)]
    rw [hhead] at hB2
    have HR := Lib.hid hr1
    clear hhead hB0 hb0 hr1 h hwA kA zA k2
    go_wp2_with fail
    go_loopg [26] cs.length (fun m i wr => ∃ j : Nat, i = .int .i64 j ∧ j + m = cs.length ∧ Lib.IsBuilder 50 5 w1.heap.size w1.heap.size (Lib.byteCells (headC cs ++ (cs.take j).flatMap encC)) wr ∧ Keeps (fun k => w1.heap.size ≤ k) w1 wr)
    case atStart => exact ⟨0, rfl, by omega, by simpa using hB2, k12⟩
    case round =>
      clear hB2 k12
      obtain ⟨j, rfl, hjm, hB, kw⟩ := hrel
      have HJM := Lib.hid hjm
      have hjl : j ≤ cs.length := by omega
      clear hjm
      have hzw := kw.size
      by_cases hj : j < cs.length
      · have hj' : (j : Int) < cs.length := by omega
        obtain ⟨b, o, rfl, x1, x2, x3⟩ := chCells' HR.out kw (fun k hk => by omega) hj
        have hck := HOK.out j hj
        have hlen : (Lib.byteCells (headC cs ++ (cs.take j).flatMap encC)).length ≤ 6002 := by
          rw [Lib.byteCells_length, List.length_append, flat_len, List.length_take]; simp [headC]; omega
        have hsucc := take_succ_C hj
        have HS := Lib.hid hsucc
        clear hsucc
        generalize cs.getD j c0 = t at *
        have hb0 : ∀ o o', Lib.IsBuilder 50 5 w1.heap.size w1.heap.size (Lib.byteCells (headC cs ++ (cs.take j).flatMap encC)) ((wr.alloc o).alloc o') := fun o o' => isB_still hB (((Keeps.refl (fun _ => False) _).alloc o).alloc o')
        have hzb : w1.heap.size < wr.heap.size := by
          rcases hB with h | h
          · exact h.lt
          · exact h.lt
        generalize hbs : Lib.byteCells (headC cs ++ (cs.take j).flatMap encC) = bs at *
        have HBS := Lib.hid hbs
        clear hbs
        by_cases hk1 : t.k = 1
        · have hkb : (t.k == 1) = true := by simpa using hk1
          have hv : 0 ≤ t.v ∧ t.v ≤ 65535 := by rw [chk_tick hk1] at hck; split at hck <;> omega
          have hv0 := hv.1
          have hv1 := hv.2
          have henc : encC t = [1, b8 (t.v / 256), b8 t.v] := by rw [encC, if_pos hk1]
          have HENC := Lib.hid henc
          clear hk1 hck hv henc
          go_wp2_with fail
          refine (sb_write w1.heap.size w1.heap.size bs _ 3 _ _ (hb0 _ _) (rds_n2 _ _ _ _ _ 3 rfl hzb) ?c1 (by omega) (by simp; omega)).mono ?_
          case c1 => intro u hu; simp at hu; rcases hu with rfl | rfl | rfl <;> rfl
          rintro e w3 ⟨rfl, hB3, k3⟩
          have heq : bs ++ #[.int .u8 1, .int .u8 (t.v / 256), .int .u8 (t.v % 256)].toList = Lib.byteCells (headC cs ++ (cs.take (j + 1)).flatMap encC) := by
            rw [← HBS.out, HS.out, List.flatMap_append, ← List.append_assoc, Lib.byteCells_append (headC cs ++ _)]
            simp only [List.flatMap_cons, List.flatMap_nil, List.append_nil, HENC.out]
            simp only [Lib.byteCells, List.map_cons, List.map_nil, b8_int]
            rw [Int.emod_eq_of_lt (show 0 ≤ t.v / 256 by omega) (by omega)]
            rfl
          rw [heq] at hB3
          clear heq
          have kk3 := ((kw.alloc _).alloc _).trans' k3
          go_wp2_with fail
          have hjm := HJM.out
          go_roundg (gk - 1)
          case measure => omega
          case rel => exact ⟨j + 1, by go_num, by omega, hB3, kk3⟩
        · have hk0 : t.k = 0 := by
            have : ¬ (t.k < 0 ∨ 1 < t.k) := fun hx => by rw [chk_kind hx] at hck; omega
            omega
          have hkb : (t.k == 1) = false := by simpa using hk1
          have hv : 0 ≤ t.v ∧ t.v ≤ 255 ∧ 0 ≤ t.w ∧ t.w ≤ 255 := by rw [chk_pick hk0] at hck; split at hck <;> omega
          have hv0 := hv.1
          have hv1 := hv.2.1
          have hv2 := hv.2.2.1
          have hv3 := hv.2.2.2
          have henc : encC t = [0, b8 t.v, b8 t.w] := by rw [encC, if_neg hk1]
          have HENC := Lib.hid henc
          clear hk1 hk0 hck hv henc
          go_wp2_with fail
          refine (sb_write w1.heap.size w1.heap.size bs _ 3 _ _ (hb0 _ _) (rds_n2 _ _ _ _ _ 3 rfl hzb) ?c1 (by omega) (by simp; omega)).mono ?_
          case c1 => intro u hu; simp at hu; rcases hu with rfl | rfl | rfl <;> rfl
          rintro e w3 ⟨rfl, hB3, k3⟩
          have heq : bs ++ #[.int .u8 0, .int .u8 t.v, .int .u8 t.w].toList = Lib.byteCells (headC cs ++ (cs.take (j + 1)).flatMap encC) := by
            rw [← HBS.out, HS.out, List.flatMap_append, ← List.append_assoc, Lib.byteCells_append (headC cs ++ _)]
            simp only [List.flatMap_cons, List.flatMap_nil, List.append_nil, HENC.out]
            simp only [Lib.byteCells, List.map_cons, List.map_nil, b8_int]
            rw [Int.emod_eq_of_lt (show 0 ≤ t.v by omega) (by omega), Int.emod_eq_of_lt (show 0 ≤ t.w by omega) (by omega)]
            rfl
          rw [heq] at hB3
          clear heq
          have kk3 := ((kw.alloc _).alloc _).trans' k3
          go_wp2_with fail
          have hjm := HJM.out
          go_roundg (gk - 1)
          case measure => omega
          case rel => exact ⟨j + 1, by go_num, by omega, hB3, kk3⟩
      · have e : j = cs.length := by omega
        subst e
        rw [List.take_length] at hB
        go_wp2_with fail
        refine (Try.Builder_String_any w1.heap.size w1.heap.size (rawC cs) _ hB (by omega)).mono ?_
        rintro e w4 ⟨rfl, b4⟩
        go_wp2_with fail
        go_ret
        exact ⟨rfl, k1.trans (kw.trans' (keeps_below b4)) (fun k hk hk' => by have := k1.size; omega)⟩
  · have hne : (allE cs != 0) = true := by simpa using he
    rw [bytesC, if_neg he]
    go_enter Try.func10, Try.ntmps10
    go_wp2_with fail
    refine (p_all _ cs ok _ h).mono ?_
    rintro e w1 ⟨rfl, k1⟩
    go_wp2_with fail
    go_ret
    exact ⟨rfl, k1⟩

set_option maxHeartbeats 1000000 in
set_option maxRecDepth 100000 in
theorem r_bytes (v : Value) (cs : List Ch) (ok : Nat → Prop) (w : World) (h : Rds ok w v 3 cs.length (flatC cs)) :
    Calls Try.prog 11 #[v] w fun e w' => e = .returned (.string ⟨(bytesC cs).toArray⟩) ∧ Keeps (fun _ => False) w w' := by
  obtain ⟨A, c, rfl⟩ := h.slice_
  by_cases he : allE cs = 0
  · have hok := allE_ok he
    rw [bytesC, if_pos he]
    have HE := Lib.hid he
    have HOK := Lib.hid hok.2
    have hl := hok.1
    have hl' : (cs.length : Int) ≤ 2000 := by omega
    clear he hok
    go_enter Try.func11, Try.ntmps11
    go_wp2_with fail
    refine (r_all _ cs ok _ h).mono ?_
    rintro e w1 ⟨rfl, k1⟩
    rw [HE.out]
    have HR := Lib.hid (h.still' k1)
    clear h
    have hown0 := World.ownsRow_lit (base := w1.heap.size) (e := 5) (size := 1) w1 #[.int .u8 ((cs.length : Int) / 256), .int .u8 ((cs.length : Int) % 256)] 2 (Nat.le_refl _) (by unfold maxLen; omega) rfl
    have kA : Keeps (fun _ => False) w1 (w1.alloc (.cells #[.int .u8 ((cs.length : Int) / 256), .int .u8 ((cs.length : Int) % 256)] 5)) := (Keeps.refl _ _).alloc _
    generalize hwA : w1.alloc (.cells #[.int .u8 ((cs.length : Int) / 256), .int .u8 ((cs.length : Int) % 256)] 5) = wA at *
    have hhead : #[Value.int .u8 ((cs.length : Int) / 256), .int .u8 ((cs.length : Int) % 256)].toList = Lib.byteCells (headC cs) := by
      simp only [headC, Lib.byteCells, List.map_cons, List.map_nil, b8_int]
      rw [Int.emod_eq_of_lt (show 0 ≤ (cs.length : Int) / 256 by omega) (by omega)]
    rw [hhead] at hown0
    clear hhead
    go_wp2_with fail
    clear hwA
    go_loopg [5, 6] cs.length (fun m b i wr => ∃ j : Nat, i = .int .i64 j ∧ j + m = cs.length ∧ wr.ownsRow w1.heap.size 5 1 b (Lib.byteCells (headC cs ++ (cs.take j).flatMap encC)).length (Lib.byteCells (headC cs ++ (cs.take j).flatMap encC)) ∧ Keeps (fun _ => False) w1 wr)
    case atStart => exact ⟨0, rfl, by omega, by simpa [Lib.byteCells, headC] using hown0, kA⟩
    case round =>
      clear hown0 kA
      obtain ⟨j, rfl, hjm, hown, kw⟩ := hrel
      have HJM := Lib.hid hjm
      have hjl : j ≤ cs.length := by omega
      clear hjm
      have hzw := kw.size
      have hll : (headC cs ++ (cs.take j).flatMap encC).length ≤ 6002 := by
        rw [List.length_append, flat_len, List.length_take]; simp [headC]; omega
      have hlen : (Lib.byteCells (headC cs ++ (cs.take j).flatMap encC)).length ≤ 6002 := by rw [Lib.byteCells_length]; exact hll
      have hl2 : 2 ≤ (headC cs ++ (cs.take j).flatMap encC).length := by rw [List.length_append]; simp [headC]
      by_cases hj : j < cs.length
      · have hj' : (j : Int) < cs.length := by omega
        obtain ⟨b, o, rfl, x1, x2, x3⟩ := chCells HR.out kw hj
        have hck := HOK.out j hj
        have hsucc := take_succ_C hj
        have HS := Lib.hid hsucc
        clear hsucc
        generalize cs.getD j c0 = t at *
        have hzb : w1.heap.size < wr.heap.size := by
          obtain ⟨g, cap, hv⟩ := ownsRow_form' hown (by rw [Lib.byteCells_length]; omega)
          subst hv
          have := hown.lt g rfl
          omega
        clear hll hl2
        generalize hbs : Lib.byteCells (headC cs ++ (cs.take j).flatMap encC) = bs at *
        have HBS := Lib.hid hbs
        clear hbs
        obtain ⟨Ab, cb, rfl⟩ := own_slice' hown
        by_cases hk1 : t.k = 1
        · have hkb : (t.k == 0) = false := by simp; omega
          have hv : 0 ≤ t.v ∧ t.v ≤ 65535 := by rw [chk_tick hk1] at hck; split at hck <;> omega
          have hv0 := hv.1
          have hv1 := hv.2
          have henc : encC t = [1, b8 (t.v / 256), b8 t.v] := by rw [encC, if_pos hk1]
          have HENC := Lib.hid henc
          clear hk1 hck hv henc
          go_wp2_with (at_builtin; go_loud (refine wpList_append_rds _ rfl _ _ 48 rfl w1.heap.size 5 (.int .u8 0) 1 1 Try.underlying48 Try.infoB rfl (by decide) _ _ _ rfl ((hown.alloc _).alloc _) _ _ 3 _ rfl (rds_n2 _ _ _ _ w1.heap.size 3 rfl hzb) ?c1 ?c2 ?c3 ?c4 ?_))
          case c1 => exact ⟨rfl, rfl, rfl⟩
          case c2 => unfold maxLen; omega
          case c3 => omega
          case c4 => simp; omega
          intro A1 p1 w3 hown3 hgrow3 hat3
          have hk3 : Keeps (fun _ => False) w1 w3 := ((kw.alloc _).alloc _).grown hgrow3 (fun k hk hlt => by have := (hown.lt k hk).1; omega)
          have heq : bs ++ #[.int .u8 1, .int .u8 (t.v / 256), .int .u8 (t.v % 256)].toList = Lib.byteCells (headC cs ++ (cs.take (j + 1)).flatMap encC) := by
            rw [← HBS.out, HS.out, List.flatMap_append, ← List.append_assoc, Lib.byteCells_append (headC cs ++ _)]
            simp only [List.flatMap_cons, List.flatMap_nil, List.append_nil, HENC.out]
            simp only [Lib.byteCells, List.map_cons, List.map_nil, b8_int]
            rw [Int.emod_eq_of_lt (show 0 ≤ t.v / 256 by omega) (by omega)]
            rfl
          rw [heq] at hown3
          have hlen3 : bs.length + 3 = (Lib.byteCells (headC cs ++ (cs.take (j + 1)).flatMap encC)).length := by rw [← heq]; simp
          have HL3 := Lib.hid hlen3
          clear heq hlen3
          go_wp2_with fail
          have hjm := HJM.out
          go_roundg (gk - 1)
          case measure => omega
          case rel => exact ⟨j + 1, by go_num, by omega, by rw [← HL3.out]; exact hown3, hk3⟩
        · have hk0 : t.k = 0 := by
            have : ¬ (t.k < 0 ∨ 1 < t.k) := fun hx => by rw [chk_kind hx] at hck; omega
            omega
          have hkb : (t.k == 0) = true := by simpa using hk0
          have hv : 0 ≤ t.v ∧ t.v ≤ 255 ∧ 0 ≤ t.w ∧ t.w ≤ 255 := by rw [chk_pick hk0] at hck; split at hck <;> omega
          have hv0 := hv.1
          have hv1 := hv.2.1
          have hv2 := hv.2.2.1
          have hv3 := hv.2.2.2
          have henc : encC t = [0, b8 t.v, b8 t.w] := by rw [encC, if_neg hk1]
          have HENC := Lib.hid henc
          clear hk1 hk0 hck hv henc
          go_wp2_with (at_builtin; go_loud (refine wpList_append_rds _ rfl _ _ 48 rfl w1.heap.size 5 (.int .u8 0) 1 1 Try.underlying48 Try.infoB rfl (by decide) _ _ _ rfl ((hown.alloc _).alloc _) _ _ 3 _ rfl (rds_n2 _ _ _ _ w1.heap.size 3 rfl hzb) ?c1 ?c2 ?c3 ?c4 ?_))
          case c1 => exact ⟨rfl, rfl, rfl⟩
          case c2 => unfold maxLen; omega
          case c3 => omega
          case c4 => simp; omega
          intro A1 p1 w3 hown3 hgrow3 hat3
          have hk3 : Keeps (fun _ => False) w1 w3 := ((kw.alloc _).alloc _).grown hgrow3 (fun k hk hlt => by have := (hown.lt k hk).1; omega)
          have heq : bs ++ #[.int .u8 0, .int .u8 t.v, .int .u8 t.w].toList = Lib.byteCells (headC cs ++ (cs.take (j + 1)).flatMap encC) := by
            rw [← HBS.out, HS.out, List.flatMap_append, ← List.append_assoc, Lib.byteCells_append (headC cs ++ _)]
            simp only [List.flatMap_cons, List.flatMap_nil, List.append_nil, HENC.out]
            simp only [Lib.byteCells, List.map_cons, List.map_nil, b8_int]
            rw [Int.emod_eq_of_lt (show 0 ≤ t.v by omega) (by omega), Int.emod_eq_of_lt (show 0 ≤ t.w by omega) (by omega)]
            rfl
          rw [heq] at hown3
          have hlen3 : bs.length + 3 = (Lib.byteCells (headC cs ++ (cs.take (j + 1)).flatMap encC)).length := by rw [← heq]; simp
          have HL3 := Lib.hid hlen3
          clear heq hlen3
          go_wp2_with fail
          have hjm := HJM.out
          go_roundg (gk - 1)
          case measure => omega
          case rel => exact ⟨j + 1, by go_num, by omega, by rw [← HL3.out]; exact hown3, hk3⟩
      · have e : j = cs.length := by omega
        subst e
        rw [List.take_length] at hown hll hl2
        obtain ⟨g, cap, rfl⟩ := ownsRow_form' hown (by rw [Lib.byteCells_length]; omega)
        have hcv : (convert 48 9 (.slice (some ⟨g, 0, none⟩) (Lib.byteCells (headC cs ++ cs.flatMap encC)).length cap)).run Try.prog wr = .ok (.string ⟨(rawC cs).toArray⟩) wr := by
          rw [Lib.byteCells_length]
          exact run_convert_bytes_back wr 48 9 5 ⟨g, 0, none⟩ cap (rawC cs) Try.underlying48 Try.underlying5 Try.underlying9 (fun j hj => hown.cells rfl j _ (byteCells_get _ _ hj))
        go_wp2_with fail
        go_ret
        exact ⟨rfl, k1.trans' kw⟩
  · have hne : (allE cs != 0) = true := by simpa using he
    rw [bytesC, if_neg he]
    go_enter Try.func11, Try.ntmps11
    go_wp2_with fail
    refine (r_all _ cs ok _ h).mono ?_
    rintro e w1 ⟨rfl, k1⟩
    go_wp2_with fail
    go_ret
    exact ⟨rfl, k1⟩
end Go.Proofs.Ytbfdiejcbiocpaa

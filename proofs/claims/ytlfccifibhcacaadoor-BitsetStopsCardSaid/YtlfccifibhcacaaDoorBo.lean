/- Sets of ids: the iterator over a set's ids. -/
import Derived.Test.YtlfccifibhcacaaDoorBn
import Derived.RangeFuncNested
import Derived.RangeFuncBound
import Derived.RangeFuncCalls
import Derived.RangeFuncLeaves
import Derived.Shelf.Abstract
import Derived.Shelf.RegionOpen
import Derived.WalkKit
import Derived.OwnWalkIn
import Derived.TacticsInMore
import Derived.LoopNIn
import Derived.LoopIn
import Derived.WalkSpells
namespace Go.Proofs.YtlfccifibhcacaaDoor
open Go.RowKit Go.Shelf
set_option linter.unusedVariables false
set_option linter.unusedSimpArgs false
attribute [local go_sem] Oper.semAt_some

/-- What the captured variable is, and the library's table, stay. -/
def KpB (b1 b2 : Nat) (W W' : World) : Prop := ∀ b, b = b1 ∨ b = b2 → W'.heap[b]? = W.heap[b]?
theorem Keeps.grownN {X Y : World} (k : Keeps (fun _ => False) X Y) : X.grownBy Y none := ⟨k.os, k.tape, k.output, k.size, fun i hi _ => k.block i hi (fun x => x)⟩
theorem Tab.same {w w' : World} (h : Tab w) (e : w'.heap[0]? = w.heap[0]?) : Tab w' := fun j hj => (World.cell?_of_block (w := w) (a := ⟨0, j, none⟩) e).trans (h j hj)

theorem p_all (S : Nat → Nat) (w : World) :
    Calls Tryd.prog 5 #[setV S] w fun e w' => e = .returned (.func (.func 8) #[] #[.pointer (some ⟨w.heap.size, 0, none⟩)]) ∧ w' = w.alloc (.cells #[.int .u64 (S 0), .int .u64 (S 1), .int .u64 (S 2), .int .u64 (S 3)] 26) := by
  go_enter Tryd.func5, Tryd.ntmps5
  go_wp2
  go_ret
  exact ⟨rfl, rfl⟩

def idO (o : Option Nat) : Int := match o with | some i => i | none => 0
theorem nextV_eq (o : Option Nat) : nextV o = .tuple #[.int .i64 (idO o), .bool o.isSome] := by cases o <;> rfl
def idM (i b : Value) : Nat := match b with | .bool true => 257 - (intOf i).toNat | _ => 0

set_option maxHeartbeats 1600000 in
set_option maxRecDepth 100000 in
theorem all1_in (n : Nat) (hn : 2 ≤ n) (l b : Nat) (S : Nat → Nat) (hS : W64 S) (J Jx : List Nat → World → Prop) (W : World) (hJ : AbidesFrom W.heap.size J) (hJx : AbidesFrom W.heap.size Jx)
    (hY : ∀ pre x W, J pre W → pre.length < (ids S).length → YieldAt Fence.wide (n - 1) Tryd.prog l #[.int .i64 (x : Nat)] W fun e W' =>
      (e = .returned (.bool true) ∧ J (pre ++ [x]) W' ∧ KpB b 0 W W') ∨ (e = .returned (.bool false) ∧ Jx (pre ++ [x]) W'))
    (hb : W.heap[b]? = some (.cells #[.int .u64 (S 0), .int .u64 (S 1), .int .u64 (S 2), .int .u64 (S 3)] 26 (0, 0))) (hT : Tab W) (h0 : J [] W) :
    CallsIn Fence.wide n Tryd.prog 8 #[.func (.yield l) #[] #[], .pointer (some ⟨b, 0, none⟩)] W fun e W' => (∃ v, e = .returned v) ∧
      ((∃ ys, ys = ids S ∧ J ys W') ∨ (∃ pre, pre <+: ids S ∧ Jx pre W')) := by
  refine callsIn_of_wp Tryd.func8 rfl trivial ?_ rfl
  simp only [Tryd.ntmps8, List.size_toArray, List.length_cons, List.length_nil, Nat.reduceAdd, Nat.reduceSub, Array.replicate_succ, Array.replicate_zero, List.push_toArray, List.append_toArray, List.nil_append, List.cons_append]
  have c0 : W.cell? ⟨b, 0, none⟩ = some (.int .u64 (S 0)) := (blkcell hb 0).trans rfl
  have c1 : W.cell? ⟨b, 1, none⟩ = some (.int .u64 (S 1)) := (blkcell hb 1).trans rfl
  have c2 : W.cell? ⟨b, 2, none⟩ = some (.int .u64 (S 2)) := (blkcell hb 2).trans rfl
  have c3 : W.cell? ⟨b, 3, none⟩ = some (.int .u64 (S 3)) := (blkcell hb 3).trans rfl
  gi_wp2
  refine ⟨trivial, fun _ => by omega, ?_⟩
  refine (callsIn_wide.2 (p_next S hS 0 W hT (by omega))).mono ?_
  rintro e W1 ⟨rfl, k1⟩
  rw [nextV_eq, nxt_zero]
  have hJ1 : J [] W1 := hJ _ _ _ none h0 (Keeps.grownN k1) (by simp)
  have hb1 : W1.heap[b]? = some (.cells #[.int .u64 (S 0), .int .u64 (S 1), .int .u64 (S 2), .int .u64 (S 3)] 26 (0, 0)) := k1.blk hb (fun x => x)
  have hT1 := hT.keeps k1
  have hWs := k1.size
  clear h0 k1 c0 c1 c2 c3 hb hT
  obtain ⟨iv, hiv⟩ : ∃ iv, idO (ids S)[0]? = iv := ⟨_, rfl⟩
  obtain ⟨bv, hbv⟩ : ∃ bv, (ids S)[0]?.isSome = bv := ⟨_, rfl⟩
  rw [hiv, hbv]
  have HIV := Lib.hid hiv
  have HBV := Lib.hid hbv
  clear hiv hbv
  gi_wp2
  gi_loopw [3, 4] (fun i v wr => ∃ k : Nat, i = .int .i64 (idO (ids S)[k]?) ∧ v = .bool (ids S)[k]?.isSome ∧ k ≤ (ids S).length ∧ J ((ids S).take k) wr ∧
      wr.heap[b]? = some (.cells #[.int .u64 (S 0), .int .u64 (S 1), .int .u64 (S 2), .int .u64 (S 3)] 26 (0, 0)) ∧ Tab wr)
    (fun i v _ => idM i v)
  case atStart =>
    exact ⟨0, by rw [HIV.out], by rw [HBV.out], by omega, by simpa using hJ1, hb1, hT1⟩
  case round =>
    obtain ⟨k, rfl, rfl, hk, hJs, hbw, hTw⟩ := hrel
    cases hc : (ids S)[k]? with
    | none =>
      have hlen : (ids S).length ≤ k := List.getElem?_eq_none_iff.1 hc
      rw [List.take_of_length_le hlen] at hJs
      have HJ := Lib.hid hJs
      clear hJs hlen hk
      simp only [idO, Option.isSome]
      gi_wp2
      go_end0
      exact ⟨⟨_, rfl⟩, .inl ⟨_, rfl, HJ.out⟩⟩
    | some i =>
      simp only [idO, Option.isSome]
      have hlt : k < (ids S).length := (List.getElem?_eq_some_iff.1 hc).1
      have hi256 : i < 256 := (mem_ids.1 (List.mem_of_getElem? hc)).1
      obtain ⟨fn, tmps, assign, body, hy, hR⟩ := hY ((ids S).take k) i wr hJs (by rw [List.length_take]; omega)
      have htk : (ids S).take (k + 1) = (ids S).take k ++ [i] := by
        rw [List.take_add_one, hc]; rfl
      have hnx := nxt_at hc
      have HC := Lib.hid hc
      have HL := Lib.hid hlt
      have HTK := Lib.hid htk
      have HNX := Lib.hid hnx
      clear hc hlt hk htk hnx
      have c0 : wr.cell? ⟨b, 0, none⟩ = some (.int .u64 (S 0)) := (blkcell hbw 0).trans rfl
      have hbwH := Lib.hid hbw
      clear c0 hbw
      gi_wp2
      refine ⟨fun _ => by omega, ?_⟩
      refine hR.mono ?_
      rintro e W3 (⟨rfl, hJ3, hk3⟩ | ⟨rfl, hJx3⟩)
      · have hb3 : W3.heap[b]? = some (.cells #[.int .u64 (S 0), .int .u64 (S 1), .int .u64 (S 2), .int .u64 (S 3)] 26 (0, 0)) := (hk3 b (.inl rfl)).trans hbwH.out
        have hT3 : Tab W3 := hTw.same (hk3 0 (.inr rfl))
        have c0 : W3.cell? ⟨b, 0, none⟩ = some (.int .u64 (S 0)) := (blkcell hb3 0).trans rfl
        have c1 : W3.cell? ⟨b, 1, none⟩ = some (.int .u64 (S 1)) := (blkcell hb3 1).trans rfl
        have c2 : W3.cell? ⟨b, 2, none⟩ = some (.int .u64 (S 2)) := (blkcell hb3 2).trans rfl
        have c3 : W3.cell? ⟨b, 3, none⟩ = some (.int .u64 (S 3)) := (blkcell hb3 3).trans rfl
        have hnc := p_next S hS (i + 1) W3 hT3 (by omega)
        have e1 : ((i + 1 : Nat) : Int) = (i : Int) + 1 := by omega
        rw [e1, HNX.out, nextV_eq] at hnc
        have HNC := Lib.hid hnc
        clear hnc
        gi_wp2
        refine ⟨trivial, fun _ => by omega, ?_⟩
        refine (callsIn_wide.2 HNC.out).mono ?_
        rintro e W4 ⟨rfl, k4⟩
        have hJ4 : J ((ids S).take (k + 1)) W4 := by rw [HTK.out]; exact hJ _ _ _ none hJ3 (Keeps.grownN k4) (by simp)
        obtain ⟨iv2, hiv2⟩ : ∃ iv, idO (ids S)[k + 1]? = iv := ⟨_, rfl⟩
        obtain ⟨bv2, hbv2⟩ : ∃ bv, (ids S)[k + 1]?.isSome = bv := ⟨_, rfl⟩
        have hmeas : idM (.int .i64 iv2) (.bool bv2) < idM (.int .i64 i) (.bool true) := by
          rw [← hiv2, ← hbv2]
          have hs := ids_sorted S
          cases hc2 : (ids S)[k + 1]? with
          | none => simp [idM, intOf]; omega
          | some i2 =>
            have hlt2 : i < i2 := by
              have h1 := List.getElem?_eq_some_iff.1 HC.out
              have h2 := List.getElem?_eq_some_iff.1 hc2
              obtain ⟨a1, b1⟩ := h1
              obtain ⟨a2, b2⟩ := h2
              have := List.pairwise_iff_getElem.1 hs k (k + 1) a1 a2 (by omega)
              omega
            simp [idM, intOf, idO]
            omega
        rw [hiv2, hbv2]
        have HIV2 := Lib.hid hiv2
        have HBV2 := Lib.hid hbv2
        have HM := Lib.hid hmeas
        clear hiv2 hbv2 hmeas c0 c1 c2 c3
        gi_wp2
        go_roundw
        case rel => exact ⟨k + 1, congrArg (Value.int .i64) HIV2.out.symm, congrArg Value.bool HBV2.out.symm, by have := HL.out; omega, hJ4, k4.blk hb3 (fun x => x), hT3.keeps k4⟩
        case measure => exact HM.out
      · gi_wp2
        refine bodyPost_ret (results_none rfl _ _ _) rfl ?_
        refine ⟨⟨_, rfl⟩, .inr ⟨(ids S).take (k + 1), List.take_prefix _ _, by rw [HTK.out]; exact hJx3⟩⟩

theorem all1_stops (n : Nat) (hn : 2 ≤ n) (b : Nat) (S : Nat → Nat) (hS : W64 S) (w : World) (l0 : 0 < w.heap.size)
    (hb : w.heap[b]? = some (.cells #[.int .u64 (S 0), .int .u64 (S 1), .int .u64 (S 2), .int .u64 (S 3)] 26 (0, 0))) (hT : Tab w) :
    SeqStopsK Fence.wide n Tryd.prog 8 #[.pointer (some ⟨b, 0, none⟩)] (fun x : Nat => #[.int .i64 x]) (KpB b 0) (fun xs => xs = ids S) (fun pre => pre <+: ids S) (ids S).length w := by
  intro l J Jx W hW hJ hJx hY h0
  have lb := blklt hb
  exact all1_in n hn l b S hS J Jx W hJ hJx hY ((hW.block b lb).trans hb) (hT.same (hW.block 0 l0)) h0
end Go.Proofs.YtlfccifibhcacaaDoor

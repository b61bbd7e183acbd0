/- Reading choices: the parts of a text (an iterator). -/
import Derived.Test.YtbfdiejcbiocpaaCa
import Derived.RangeFuncNested
import Derived.RangeFuncBound
import Derived.RangeFuncCalls
import Derived.RangeFuncLeaves
import Derived.Shelf.Abstract
import Derived.Shelf.RegionOpen
import Derived.WalkKit
import Derived.OwnWalkIn
import Derived.TacticsInMore
import Derived.LoopNIn
import Derived.LoopIn
import Derived.WalkSpells
namespace Go.Proofs.Ytbfdiejcbiocpaa
open Go.RowKit Go.Shelf
set_option linter.unusedVariables false
set_option linter.unusedSimpArgs false
attribute [local go_sem] Oper.semAt_some


/-- A part: three bytes. -/
abbrev Part := { x : ByteArray // x.size = 3 }
def pc (s : ByteArray) (i : Nat) : Part := if h : (i + 1) * 3 ≤ s.size then ⟨s.extract (i * 3) ((i + 1) * 3), by rw [ByteArray.size_extract]; omega⟩ else ⟨⟨#[0, 0, 0]⟩, rfl⟩
theorem pc_val (s : ByteArray) (i : Nat) (h : (i + 1) * 3 ≤ s.size) : (pc s i).1 = s.extract (i * 3) ((i + 1) * 3) := by rw [pc, dif_pos h]
def upto (s : ByteArray) (k : Nat) : List Part := (List.range k).map (pc s)
theorem upto_succ (s : ByteArray) (k : Nat) : upto s (k + 1) = upto s k ++ [pc s k] := by simp [upto, List.range_succ]
theorem upto_len (s : ByteArray) (k : Nat) : (upto s k).length = k := by simp [upto]
theorem upto_pre (s : ByteArray) {j k : Nat} (h : j ≤ k) : upto s j <+: upto s k := by
  refine ⟨(upto s k).drop j, ?_⟩
  have : upto s j = (upto s k).take j := by
    simp [upto, ← List.map_take, List.take_range, Nat.min_eq_left h]
  rw [this, List.take_append_drop]

/-- What the two captured variables are, stays. -/
def KpB (b1 b2 : Nat) (W W' : World) : Prop := ∀ b, b = b1 ∨ b = b2 → W'.heap[b]? = W.heap[b]?

set_option maxHeartbeats 1600000 in
set_option maxRecDepth 100000 in
theorem parts1_in (F : Fence) (n : Nat) (h23 : F.fn 23) (hro : F.round = none) (hn : 1 ≤ n) (l b1 b2 : Nat) (s : ByteArray) (many : Nat) (hm : many ≤ 2000) (hs : s.size ≤ 140737488355328) (J Jx : List Part → World → Prop)
    (hY : ∀ pre x W, J pre W → pre.length < min many (s.size / 3) → YieldAt F (n - 1) Try.prog l #[.string x.1] W fun e W' =>
      (e = .returned (.bool true) ∧ J (pre ++ [x]) W' ∧ KpB b1 b2 W W') ∨ (e = .returned (.bool false) ∧ Jx (pre ++ [x]) W'))
    (W : World) (hb1 : W.cell? ⟨b1, 0, none⟩ = some (.int .i64 many)) (hb2 : W.cell? ⟨b2, 0, none⟩ = some (.string s)) (h0 : J [] W) :
    CallsIn F n Try.prog 23 #[.func (.yield l) #[] #[], .pointer (some ⟨b1, 0, none⟩), .pointer (some ⟨b2, 0, none⟩)] W fun e W' => (∃ v, e = .returned v) ∧
      ((∃ ys, ys = upto s (min many (s.size / 3)) ∧ J ys W') ∨ (∃ pre, pre <+: upto s (min many (s.size / 3)) ∧ Jx pre W')) := by
  refine callsIn_of_wp Try.func23 rfl h23 ?_ hro
  simp only [Try.ntmps23, List.size_toArray, List.length_cons, List.length_nil, Nat.reduceAdd, Nat.reduceSub, Array.replicate_succ, Array.replicate_zero, List.push_toArray, List.append_toArray, List.nil_append, List.cons_append]
  gi_wp2
  gi_loopw [6] (fun i wr => ∃ k : Nat, k ≤ min many (s.size / 3) ∧ i = .int .i64 k ∧ wr.cell? ⟨b2, 0, none⟩ = some (.string s) ∧ J (upto s k) wr)
    (fun i _ => many - (intOf i).toNat)
  case atStart =>
    exact ⟨0, by omega, rfl, hb2, h0⟩
  case round =>
    obtain ⟨k, hk, rfl, hc, hJs⟩ := hrel
    by_cases hkm : k < many
    · have hkm' : (k : Int) < many := by omega
      by_cases hks : s.size < (k + 1) * 3
      · have hks' : (s.size : Int) < ((k : Int) + 1) * 3 := by omega
        have e : k = min many (s.size / 3) := by omega
        have HE := Lib.hid e
        clear e
        gi_wp2
        all_goals
          refine ⟨fun _ h => (by cases h), ?_⟩
          gi_wp2
          refine bodyPost_ret (results_none rfl _ _ _) rfl ?_
          exact ⟨⟨_, rfl⟩, .inl ⟨_, by rw [HE.out], hJs⟩⟩
      · have hks1 : ¬ ((s.size : Int) < ((k : Int) + 1) * 3) := by omega
        have hks2 : (k + 1) * 3 ≤ s.size := by omega
        have hlt : (upto s k).length < min many (s.size / 3) := by rw [upto_len]; omega
        obtain ⟨fn, tmps, assign, body, hy, hR⟩ := hY (upto s k) (pc s k) wr hJs hlt
        rw [pc_val s k hks2] at hy
        have q1 : (0 : Int) ≤ (k : Int) * 3 := by omega
        have q2 : (k : Int) * 3 ≤ ((k : Int) + 1) * 3 := by omega
        have q3 : ((k : Int) + 1) * 3 ≤ (s.size : Int) := by omega
        have q4 : ((k : Int) * 3).toNat = k * 3 := by omega
        have q5 : (((k : Int) + 1) * 3).toNat = (k + 1) * 3 := by omega
        have HL := Lib.hid hlt
        clear hlt
        gi_wp2
        refine hR.mono ?_
        rintro e W3 (⟨rfl, hJ3, hk3⟩ | ⟨rfl, hJx3⟩)
        · have hc3 : W3.cell? ⟨b2, 0, none⟩ = some (.string s) := (World.cell?_of_block (w := wr) (hk3 b2 (.inr rfl))).trans hc
          gi_wp2
          go_roundw
          case rel => exact ⟨k + 1, by have := HL.out; rw [upto_len] at this; omega, by go_num, hc3, by rw [upto_succ]; exact hJ3⟩
          case measure => simp [intOf]; omega
        · gi_wp2
          refine bodyPost_ret (results_none rfl _ _ _) rfl ?_
          exact ⟨⟨_, rfl⟩, .inr ⟨upto s (k + 1), upto_pre s (by have := HL.out; rw [upto_len] at this; omega), by rw [upto_succ]; exact hJx3⟩⟩
    · have e : k = min many (s.size / 3) := by omega
      have HE := Lib.hid e
      clear e
      gi_wp2
      go_end0
      exact ⟨⟨_, rfl⟩, .inl ⟨_, by rw [HE.out], hJs⟩⟩

theorem parts1_stops (F : Fence) (n : Nat) (h23 : F.fn 23) (hro : F.round = none) (hn : 1 ≤ n) (b1 b2 : Nat) (s : ByteArray) (many : Nat) (hm : many ≤ 2000) (hs : s.size ≤ 140737488355328) (w : World) (l1 : b1 < w.heap.size) (l2 : b2 < w.heap.size)
    (hb1 : w.cell? ⟨b1, 0, none⟩ = some (.int .i64 many)) (hb2 : w.cell? ⟨b2, 0, none⟩ = some (.string s)) :
    SeqStopsK F n Try.prog 23 #[.pointer (some ⟨b1, 0, none⟩), .pointer (some ⟨b2, 0, none⟩)] (fun x : Part => #[.string x.1]) (KpB b1 b2) (fun xs => xs = upto s (min many (s.size / 3))) (fun pre => pre <+: upto s (min many (s.size / 3))) (min many (s.size / 3)) w := by
  intro l J Jx W hW hJ hJx hY h0
  exact parts1_in F n h23 hro hn l b1 b2 s many hm hs J Jx hY W ((hW.cell (p := ⟨b1, 0, none⟩) l1).trans hb1) ((hW.cell (p := ⟨b2, 0, none⟩) l2).trans hb2) h0
end Go.Proofs.Ytbfdiejcbiocpaa

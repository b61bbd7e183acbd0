/- A slice of choices among the arguments. -/
import Derived.Test.YtbfdiejcbiocpaaCc
import Derived.Test.YtbfdiejcbiocpaaRo
namespace Go.Proofs.Ytbfdiejcbiocpaa
open Go.ChangeShapes Go.WideShapes Go.ChangeAt Go.RowKit Go.Deep
set_option linter.unusedVariables false
set_option linter.unusedSimpArgs false

instance : Inhabited Ch := ⟨c0⟩
theorem three_of {α : Type} {l : List α} (h : l.length = 3) : ∃ a b c, l = [a, b, c] :=
  match l, h with
  | [a, b, c], _ => ⟨a, b, c, rfl⟩

theorem flatC_get (cs : List Ch) (i r : Nat) (hr : r < 3) : (flatC cs)[i * 3 + r]? = (cs[i]?).bind (fun c => [Value.int .i64 c.k, Value.int .i64 c.v, Value.int .i64 c.w][r]?) := by
  induction cs generalizing i with
  | nil => simp [flatC]
  | cons c cs ih =>
    have e : flatC (c :: cs) = [Value.int .i64 c.k, Value.int .i64 c.v, Value.int .i64 c.w] ++ flatC cs := rfl
    rw [e]
    cases i with
    | zero =>
      rw [Nat.zero_mul, Nat.zero_add, List.getElem?_append_left (by simpa using hr)]
      rfl
    | succ i =>
      rw [List.getElem?_append_right (by simp; omega)]
      have : (i + 1) * 3 + r - [Value.int .i64 c.k, Value.int .i64 c.v, Value.int .i64 c.w].length = i * 3 + r := by simp; omega
      rw [this, ih i]
      rfl

theorem open_chs {H : Type} {enc : TypeId × Value → H} {w : World} {A : Option Addr} {len cap : Nat} {d : DataW H} {p : List MemPlace}
    (h : DataW.Trod enc Try.prog w 0 (fun _ => true) true 22 (.slice A len cap) d p) : ∃ cs : List Ch, cs.length = len ∧ Rds (fun _ => True) w (.slice A len cap) 3 len (flatC cs) := by
  obtain ⟨hle, C, hC, hA⟩ := open_flat (e := 24) (sz := 3) (fun cs => ∃ x y z : Int, cs = [.int .i64 x, .int .i64 y, .int .i64 z]) Try.underlying22 (by kernel_rfl) (by omega) (fun fuel cs x hx => by
    obtain ⟨ys, m, _, _, hlen, hl, hf⟩ := DataW.trod_struct Try.underlying24 hx
    have c3 : Try.prog.cellsOf 3 = 1 := by kernel_rfl
    have c24 : Try.prog.cellsOf 24 = 3 := by kernel_rfl
    rw [c24] at hlen
    have f0 : DataW.trod enc Try.prog w 0 (fun _ => true) true m 3 ((cs.drop 0).take (Try.prog.cellsOf 3)) = ys[0]? := hf 0 _ rfl
    have f1 : DataW.trod enc Try.prog w 0 (fun _ => true) true m 3 ((cs.drop 1).take (Try.prog.cellsOf 3)) = ys[1]? := hf 1 _ rfl
    have f2 : DataW.trod enc Try.prog w 0 (fun _ => true) true m 3 ((cs.drop 2).take (Try.prog.cellsOf 3)) = ys[2]? := hf 2 _ rfl
    rw [c3] at f0 f1 f2
    obtain ⟨y0, y1, y2, rfl⟩ := three_of hl
    obtain ⟨v0, v1, v2, rfl⟩ := three_of hlen
    simp at f0 f1 f2
    obtain ⟨x0, e0, _, w0⟩ := DataW.trod_int Try.underlying3 f0
    obtain ⟨x1, e1, _, w1⟩ := DataW.trod_int Try.underlying3 f1
    obtain ⟨x2, e2, _, w2⟩ := DataW.trod_int Try.underlying3 f2
    simp at e0 e1 e2
    exact ⟨x0, x1, x2, by rw [e0, e1, e2]⟩) h
  have g : ∀ i, i < len → ∃ q : Ch, C i = [.int .i64 q.k, .int .i64 q.v, .int .i64 q.w] := fun i hi => by
    obtain ⟨_, x, y, z, h3⟩ := hC i hi
    exact ⟨⟨x, y, z⟩, h3⟩
  obtain ⟨q, hq⟩ := choose_lt (p := fun i (q : Ch) => C i = [.int .i64 q.k, .int .i64 q.v, .int .i64 q.w]) g
  refine ⟨(List.range len).map q, by simp, by rw [flatC_len]; simp, A, cap, rfl, hle, ?_⟩
  by_cases h0 : len = 0
  · exact .inl h0
  · obtain ⟨b, o, rfl, hb, hcell⟩ := hA (by omega)
    refine .inr ⟨b, o, rfl, trivial, hb, fun j u hj => ?_⟩
    have hlt : j < len * 3 := by
      have := (List.getElem?_eq_some_iff.1 hj).1
      rw [flatC_len] at this
      simpa using this
    have hj' : j = j / 3 * 3 + j % 3 := by omega
    rw [hj', flatC_get _ _ _ (by omega)] at hj
    have hi : j / 3 < len := by omega
    have e : ((List.range len).map q)[j / 3]? = some (q (j / 3)) := by simp [hi]
    rw [e] at hj
    have := hcell (j / 3) hi (j % 3) u (by rw [hq _ hi]; exact hj)
    rwa [Nat.add_assoc, ← hj'] at this

end Go.Proofs.Ytbfdiejcbiocpaa

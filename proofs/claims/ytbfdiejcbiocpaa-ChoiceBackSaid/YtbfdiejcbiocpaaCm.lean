/- ChoiceBack: the walk. -/
import Derived.Test.YtbfdiejcbiocpaaCl
namespace Go.Proofs.Ytbfdiejcbiocpaa
open Go.RowKit Go.Shelf
set_option linter.unusedVariables false
set_option linter.unusedSimpArgs false

theorem str_take (s : ByteArray) (n : Nat) : (⟨(s.data.toList.take n).toArray⟩ : ByteArray) = s.extract 0 n := by
  apply ByteArray.ext
  rw [ByteArray.data_extract]
  apply Array.ext'
  rw [Array.toList_extract]
  simp [List.extract_eq_take_drop]
theorem cat_bytes (s : ByteArray) (l : List UInt8) : (s ++ (⟨l.toArray⟩ : ByteArray)).data.toList = s.data.toList ++ l := by
  simp [ByteArray.data_append]
theorem size_bytes (l : List UInt8) : (⟨l.toArray⟩ : ByteArray).size = l.length := by simp [ByteArray.size]

set_option maxHeartbeats 2000000 in
set_option maxRecDepth 100000 in
theorem l_back_wide (A : Option Addr) (len c : Nat) (ahead s : ByteArray) (w : World) (h : 100 < len ∨ 100 < ahead.size ∨ 1000 < s.size) :
    Calls Try.prog 5 #[.slice A len c, .string ahead, .string s] w fun e w' => e = .returned (.bool true) ∧ Keeps (fun _ => False) w w' := by
  by_cases h1 : 100 < len
  · have h1' : (100 : Int) < len := by omega
    clear h
    go_enter Try.func5, Try.ntmps5
    go_wp2_with fail
    refine (p_alive w).mono ?_
    rintro e w1 ⟨rfl, k1⟩
    go_wp2_with fail
    go_ret
    exact ⟨rfl, k1⟩
  · have h1' : decide ((100 : Int) < len) = false := by simp; omega
    by_cases h2 : 100 < ahead.size
    · have h2' : (100 : Int) < ahead.size := by omega
      clear h h1
      go_enter Try.func5, Try.ntmps5
      go_wp2_with fail
      refine (p_alive w).mono ?_
      rintro e w1 ⟨rfl, k1⟩
      go_wp2_with fail
      go_ret
      exact ⟨rfl, k1⟩
    · have h2' : decide ((100 : Int) < ahead.size) = false := by simp; omega
      have h3' : (1000 : Int) < s.size := by omega
      clear h h1 h2
      go_enter Try.func5, Try.ntmps5
      go_wp2_with fail
      refine (p_alive w).mono ?_
      rintro e w1 ⟨rfl, k1⟩
      go_wp2_with fail
      go_ret
      exact ⟨rfl, k1⟩

set_option maxHeartbeats 2000000 in
set_option maxRecDepth 100000 in
theorem l_back (v : Value) (cs : List Ch) (ok : Nat → Prop) (ahead s : ByteArray) (w : World) (h : Rds ok w v 3 cs.length (flatC cs)) :
    Calls Try.prog 5 #[v, .string ahead, .string s] w fun e w' => e = .returned (.bool true) ∧ Keeps (fun _ => False) w w' := by
  obtain ⟨A, c, rfl⟩ := h.slice_
  by_cases hw : 100 < cs.length ∨ 100 < ahead.size ∨ 1000 < s.size
  · exact l_back_wide A _ c ahead s w hw
  have g1 : decide ((100 : Int) < cs.length) = false := by simp; omega
  have g2 : decide ((100 : Int) < ahead.size) = false := by simp; omega
  have g3 : ¬ (1000 : Int) < s.size := by omega
  have g4 : cs.length ≤ 100 := by omega
  have g5 : ahead.size ≤ 100 := by omega
  have g6 : s.size ≤ 1000 := by omega
  have HH := Lib.hid h
  clear h hw
  by_cases hE : allE cs = 0
  · have HE := Lib.hid hE
    go_enter Try.func5, Try.ntmps5
    go_wp2_with fail
    refine (to_p _ cs _ _ HH.out (by omega)).mono ?_
    rintro e w1 ⟨u, rfl, hu, k1⟩
    have HU := Lib.hid hu
    clear hu
    go_wp2_with fail
    refine (p_all u cs _ _ HU.out).mono ?_
    rintro e w2 ⟨rfl, k2⟩
    rw [hE]
    clear hE
    go_wp2_with fail
    refine (p_bytes u cs _ _ (HU.out.keeps k2 (fun _ _ _ x => x))).mono ?_
    rintro e w3 ⟨rfl, k3⟩
    obtain ⟨hcl, hcc⟩ := allE_ok HE.out
    have hbs : bytesC cs = rawC cs := by unfold bytesC; rw [if_pos HE.out]
    have hbz : (⟨(bytesC cs).toArray⟩ : ByteArray).size ≤ 302 := by rw [size_bytes, hbs, rawC_len]; omega
    have hrl : (ahead ++ (⟨(bytesC cs).toArray⟩ : ByteArray)).data.toList = ahead.data.toList ++ rawC cs := by rw [cat_bytes, hbs]
    have hrz : (ahead ++ (⟨(bytesC cs).toArray⟩ : ByteArray)).size ≤ 8000 := by rw [ByteArray.size_append]; omega
    have hmx : ¬ 9223372036854775807 < ahead.size + (⟨(bytesC cs).toArray⟩ : ByteArray).size := by omega
    have HRL := Lib.hid hrl
    clear hrl hbs
    generalize (⟨(bytesC cs).toArray⟩ : ByteArray) = bs at *
    go_wp2_with fail
    have hr1 := p_read (ahead ++ bs) (ahead.size : Int) w3 hrz (by omega)
    rw [HRL.out, ← bytes_len ahead] at hr1
    unfold RdFull at hr1
    rw [back_E _ _ HE.out, back_L _ _ HE.out, back_T _ _ HE.out, bytes_len] at hr1
    refine hr1.mono ?_
    clear hr1
    rintro e w4 ⟨m1, rfl, hm1, k4⟩
    have HM1 := Lib.hid hm1
    clear hm1
    go_wp2_with fail
    refine (back_r m1 cs _ _ HM1.out (by omega)).mono ?_
    rintro e w5 ⟨x, rfl, hx, k5⟩
    have k25 : Keeps (fun _ => False) w w5 := (((k1.trans' k2).trans' k3).trans' k4).trans' k5
    go_wp2_with fail
    refine (r_same x _ cs _ _ _ hx (HH.out.keeps k25 (fun _ _ _ x => x)) (by omega)).mono ?_
    rintro e w6 ⟨rfl, q, rfl⟩
    have KN : Keeps (fun _ => False) w (w5.drewN q) := k25.drewN q
    clear k1 k2 k3 k4 k5 k25 hx HM1
    go_wp2_with fail
    have hrd := p_read s 0 (w5.drewN q) (by omega) (by decide)
    refine hrd.mono ?_
    clear hrd
    rintro e w8 ⟨m, rfl, hm, k8⟩
    have HM := Lib.hid hm
    clear hm
    by_cases hR : readE s.data.toList 0 = 0
    · obtain ⟨o1, o2, o3⟩ := only_these _ hR
      have hst : (⟨(bytesC (readL s.data.toList 0)).toArray⟩ : ByteArray) = s.extract 0 (readTo s.data.toList 0).toNat := by rw [o1]; exact str_take _ _
      rw [bytes_len] at o3
      have hpb : ∀ W : KW w8, Calls Try.prog 10 #[m] W.w fun e w' => e = .returned (.string (s.extract 0 (readTo s.data.toList 0).toNat)) ∧ Keeps (fun _ => False) W.w w' := fun W => hst ▸ p_bytes m _ _ _ (HM.out.keeps W.keeps (fun _ _ _ x => x))
      have HP := Lib.hid hpb
      clear hpb hst o1
      rw [hR]
      clear hR HM
      generalize readTo s.data.toList 0 = T at *
      go_wp2_with fail
      refine wp_qkeep (w0 := w8) (Keeps.refl _ _) (by kernel_rfl) (by kernel_rfl) ?_
      repeat (go_big_quiet_step (first | (go_at_call 10; exact calls_k (HP.out _)) | (go_at_call 6; exact calls_k (p_alive _))))
      refine wpQuiet_nil (fun W => ?_)
      go_wp2_with fail
      go_ret
      exact ⟨rfl, (KN.trans' k8).trans' W.keeps⟩
    · have hb : (readE s.data.toList 0 != 0) = true := by simp [hR]
      have hb2 : (readE s.data.toList 0 == 0) = false := by simp [hR]
      clear HM
      generalize readE s.data.toList 0 = E at *
      generalize readTo s.data.toList 0 = T at *
      go_wp2_with fail
      refine wp_qkeep (w0 := w8) (Keeps.refl _ _) (by kernel_rfl) (by kernel_rfl) ?_
      repeat (go_big_quiet_step ((go_at_call 6; exact calls_k (p_alive _))))
      refine wpQuiet_nil (fun W => ?_)
      go_wp2_with fail
      go_ret
      exact ⟨rfl, (KN.trans' k8).trans' W.keeps⟩
  · have HE := Lib.hid hE
    go_enter Try.func5, Try.ntmps5
    go_wp2_with fail
    refine (to_p _ cs _ _ HH.out (by omega)).mono ?_
    rintro e w1 ⟨u, rfl, hu, k1⟩
    have HU := Lib.hid hu
    clear hu
    go_wp2_with fail
    refine (p_all u cs _ _ HU.out).mono ?_
    rintro e w2 ⟨rfl, k2⟩
    go_wp2_with fail
    have KN : Keeps (fun _ => False) w w2 := k1.trans' k2
    have hrd := p_read s 0 w2 (by omega) (by decide)
    refine hrd.mono ?_
    clear hrd
    rintro e w8 ⟨m, rfl, hm, k8⟩
    have HM := Lib.hid hm
    clear hm
    by_cases hR : readE s.data.toList 0 = 0
    · obtain ⟨o1, o2, o3⟩ := only_these _ hR
      have hst : (⟨(bytesC (readL s.data.toList 0)).toArray⟩ : ByteArray) = s.extract 0 (readTo s.data.toList 0).toNat := by rw [o1]; exact str_take _ _
      rw [bytes_len] at o3
      have hpb : ∀ W : KW w8, Calls Try.prog 10 #[m] W.w fun e w' => e = .returned (.string (s.extract 0 (readTo s.data.toList 0).toNat)) ∧ Keeps (fun _ => False) W.w w' := fun W => hst ▸ p_bytes m _ _ _ (HM.out.keeps W.keeps (fun _ _ _ x => x))
      have HP := Lib.hid hpb
      clear hpb hst o1
      rw [hR]
      clear hR HM
      generalize readTo s.data.toList 0 = T at *
      go_wp2_with fail
      refine wp_qkeep (w0 := w8) (Keeps.refl _ _) (by kernel_rfl) (by kernel_rfl) ?_
      repeat (go_big_quiet_step (first | (go_at_call 10; exact calls_k (HP.out _)) | (go_at_call 6; exact calls_k (p_alive _))))
      refine wpQuiet_nil (fun W => ?_)
      go_wp2_with fail
      go_ret
      exact ⟨rfl, (KN.trans' k8).trans' W.keeps⟩
    · have hb : (readE s.data.toList 0 != 0) = true := by simp [hR]
      have hb2 : (readE s.data.toList 0 == 0) = false := by simp [hR]
      clear HM
      generalize readE s.data.toList 0 = E at *
      generalize readTo s.data.toList 0 = T at *
      go_wp2_with fail
      refine wp_qkeep (w0 := w8) (Keeps.refl _ _) (by kernel_rfl) (by kernel_rfl) ?_
      repeat (go_big_quiet_step ((go_at_call 6; exact calls_k (p_alive _))))
      refine wpQuiet_nil (fun W => ?_)
      go_wp2_with fail
      go_ret
      exact ⟨rfl, (KN.trans' k8).trans' W.keeps⟩
end Go.Proofs.Ytbfdiejcbiocpaa

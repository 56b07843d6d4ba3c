/-
  The reference's Text: it answers what the plain function says, for every int64. Nothing is asked.
-/
import Derived.Test.YteamacekhfncnaaDoorNum
namespace Go.Proofs.YteamacekhfncnaaDoor
open Go.RowKit
open Go.Lib (decDigits)

def Rest (N m : Nat) (t : List UInt8) : Prop := (if m = 0 then [] else decDigits m) ++ t = decDigits N
theorem rest_step {N m : Nat} {t : List UInt8} (h : Rest N m t) (hm : 0 < m) : Rest N (m / 10) (UInt8.ofNat (48 + m % 10) :: t) := by
  unfold Rest at *
  rw [if_neg (by omega)] at h
  rw [← h]
  by_cases h10 : m < 10
  · rw [if_pos (by omega), decDigits, dif_pos h10, show m % 10 = m by omega]; rfl
  · rw [if_neg (by omega)]
    conv => rhs; rw [decDigits, dif_neg h10]
    simp

theorem ret_str' {a b : List UInt8} (h : a = b) : Ending.returned (.string ⟨a.toArray⟩) = .returned (.string ⟨b.toArray⟩) := by rw [h]
theorem conv_one (w : World) (c : Int) : (convert 45 9 (.slice (some ⟨w.heap.size, 0, none⟩) 1 1)).run Tryd.prog (w.alloc (.cells #[.int .u8 c] 5)) = .ok (.string ⟨#[UInt8.ofNat c.toNat]⟩) (w.alloc (.cells #[.int .u8 c] 5)) := by
  have := run_convert_bytes_arg (P := Tryd.prog) (w.alloc (.cells #[.int .u8 c] 5)) 45 5 Tryd.underlying45 Tryd.underlying5 w.heap.size 0 1 1 [c] rfl (fun i hi => by
    obtain rfl : i = 0 := by omega
    have := cell_one_new w (.int .u8 c) 5 0 _ rfl
    exact this) 9 Tryd.underlying9
  exact this
set_option maxRecDepth 100000 in
set_option maxHeartbeats 1000000 in
theorem rtext_in (n : Int) (w : World) (h0 : 0 < n) (h1 : n ≤ 1099511627776) : Calls Tryd.prog 16 #[.int .i64 n] w fun e w' => e = .returned (.string ⟨(textL n).toArray⟩) ∧ Below w.heap.size w w' := by
  have hqb : quantB n = true := by unfold quantB; rw [decide_eq_true (by omega), decide_eq_true (by omega)]; rfl
  have hz : (n == 0) = false := by rw [beq_eq_false_iff_ne]; omega
  obtain ⟨N, rfl⟩ : ∃ N : Nat, n = N := ⟨n.toNat, by omega⟩
  go_enter Tryd.func16, Tryd.ntmps16
  go_wp2_with fail
  refine (quant_any _ _).mono ?_
  rintro e w' ⟨rfl, rfl⟩
  go_wp2_with fail
  go_loopw [0, 3] (fun a b w' => ∃ (m : Nat) (t : List UInt8), a = .int .i64 m ∧ b = .string ⟨t.toArray⟩ ∧ Rest N m t ∧ m ≤ 1099511627776 ∧ t.length + m ≤ N ∧ Below w.heap.size w w') (fun a _ _ => (intOf a).toNat)
  case atStart => exact ⟨N, [], rfl, rfl, by unfold Rest; rw [if_neg (by omega)]; simp, by omega, by simp, Below.refl _ _⟩
  case round =>
    obtain ⟨m, t, rfl, rfl, hr, hm, hl, hb⟩ := hrel
    have HR := Lib.hid hr
    have HB := Lib.hid hb
    clear hr hb
    by_cases hm0 : 0 < m
    · have hcv := conv_one wr
      have HR2 := Lib.hid (rest_step HR.out hm0)
      have HB2 := Lib.hid (HB.out.alloc HB.out.size (.cells #[.int .u8 (48 + ((m : Int) % 10))] 5))
      go_wp2_with fail
      refine ⟨⟨m / 10, UInt8.ofNat (48 + m % 10) :: t, rfl, ?_, HR2.out, by omega, by simp; omega, HB2.out⟩, ?_⟩
      · rw [UInt8.ofNat_add]
        congr 1
      · simp [intOf]; omega
    · obtain rfl : m = 0 := by omega
      have hr := HR.out
      unfold Rest at hr
      rw [if_pos rfl, List.nil_append] at hr
      have ht : t = textL N := by
        rw [hr]; unfold textL; rw [if_pos ⟨by omega, by unfold top; omega⟩]; rfl
      have HT := Lib.hid ht
      clear hr ht
      go_wp2_with fail
      go_ret
      exact ⟨ret_str' HT.out, HB.out⟩

set_option maxRecDepth 100000 in
theorem rtext_out (n : Int) (w : World) (h : ¬ (0 < n ∧ n ≤ 1099511627776)) : Calls Tryd.prog 16 #[.int .i64 n] w fun e w' => e = .returned (.string ⟨(textL n).toArray⟩) ∧ Below w.heap.size w w' := by
  by_cases hz : n = 0
  · subst hz
    have hqb : quantB 0 = true := by decide
    have ht : textL 0 = [48] := by decide +kernel
    rw [ht]
    go_enter Tryd.func16, Tryd.ntmps16
    go_wp2_with fail
    refine (quant_any _ _).mono ?_
    rintro e w' ⟨rfl, rfl⟩
    go_wp2_with fail
    go_ret
    exact ⟨rfl, Below.refl _ _⟩
  · have hqb : quantB n = false := by
      rw [Bool.eq_false_iff]; intro k; unfold quantB at k
      simp only [Bool.and_eq_true, decide_eq_true_eq] at k
      omega
    have ht : textL n = [] := by unfold textL; rw [if_neg (by unfold top; omega)]
    rw [ht]
    clear h
    go_enter Tryd.func16, Tryd.ntmps16
    go_wp2_with fail
    refine (quant_any _ _).mono ?_
    rintro e w' ⟨rfl, rfl⟩
    go_wp2_with fail
    go_ret
    exact ⟨rfl, Below.refl _ _⟩
theorem rtext_any (n : Int) (w : World) : Calls Tryd.prog 16 #[.int .i64 n] w fun e w' => e = .returned (.string ⟨(textL n).toArray⟩) ∧ Below w.heap.size w w' := by
  by_cases h : 0 < n ∧ n ≤ 1099511627776
  · exact rtext_in n w h.1 h.2
  · exact rtext_out n w h
end Go.Proofs.YteamacekhfncnaaDoor

/-
  The reference's SizeText: it answers what the plain function says, for every int64. Nothing is asked.
-/
import Derived.Test.YteamacekhfncnaaDoorRText
import Derived.Test.YteamacekhfncnaaDoorHead
import Derived.Deep.RegionHeld3
namespace Go.Proofs.YteamacekhfncnaaDoor
open Go.RowKit

theorem by_s {w0 w1 : World} {p : Addr} {u : Value} {t : ByteArray} {a : Int} (ht : byU t.data.toList = a) (h : w1.cell? p = some u ∧ Below w0.heap.size w0 w1) :
    Calls Tryd.prog 24 #[.string t] w1 fun e w' => e = .returned (.int .i64 a) ∧ (w'.cell? p = some u ∧ Below w0.heap.size w0 w') := by
  subst ht
  exact (by_any t w1).mono fun _ _ ⟨he, hb⟩ => ⟨he, (hb.cell (World.block_lt_of_cell? w1 _ h.1)).trans h.1, below_next h.2 hb⟩
theorem rtext_s {w0 w1 : World} {p : Addr} {u : Value} (n : Int) (h : w1.cell? p = some u ∧ Below w0.heap.size w0 w1) :
    Calls Tryd.prog 16 #[.int .i64 n] w1 fun e w' => ∃ l : List UInt8, l.length ≤ 13 ∧ Hid (l = textL n) ∧ e = .returned (.string ⟨l.toArray⟩) ∧ (w'.cell? p = some u ∧ Below w0.heap.size w0 w') :=
  (rtext_any n w1).mono fun _ _ ⟨he, hb⟩ => ⟨textL n, textL_len n, rfl, he, (hb.cell (World.block_lt_of_cell? w1 _ h.1)).trans h.1, below_next h.2 hb⟩
/-- The four names in their block. -/
def Four (b : Nat) (w : World) : Prop := w.cell? ⟨b, 0, none⟩ = some (.string ⟨#[84, 105, 66]⟩) ∧ w.cell? ⟨b, 1, none⟩ = some (.string ⟨#[71, 105, 66]⟩) ∧ w.cell? ⟨b, 2, none⟩ = some (.string ⟨#[77, 105, 66]⟩) ∧ w.cell? ⟨b, 3, none⟩ = some (.string ⟨#[75, 105, 66]⟩)
theorem Four.next {b : Nat} {w w' : World} (h : Four b w) (hb : Below w.heap.size w w') : Four b w' :=
  ⟨(hb.cell (World.block_lt_of_cell? w _ h.1)).trans h.1, (hb.cell (World.block_lt_of_cell? w _ h.2.1)).trans h.2.1, (hb.cell (World.block_lt_of_cell? w _ h.2.2.1)).trans h.2.2.1, (hb.cell (World.block_lt_of_cell? w _ h.2.2.2)).trans h.2.2.2⟩
theorem heap_new (w : World) (o : Obj) : (w.alloc o).heap[w.heap.size]? = some o := by
  show (w.heap.push _)[w.heap.size]? = _
  simp
theorem Four.mk0 (w : World) : Four w.heap.size (w.alloc (.cells #[.string ⟨#[84, 105, 66]⟩, .string ⟨#[71, 105, 66]⟩, .string ⟨#[77, 105, 66]⟩, .string ⟨#[75, 105, 66]⟩] 9)) := by
  refine ⟨?_, ?_, ?_, ?_⟩ <;> (unfold World.cell?; simp only [heap_new]; rfl)

set_option maxRecDepth 100000 in
set_option maxHeartbeats 1000000 in
theorem rsizetext_out (n : Int) (w : World) (h : ¬ (0 < n ∧ n ≤ 1099511627776)) : Calls Tryd.prog 17 #[.int .i64 n] w fun e w' => e = .returned (.string ⟨(textL n).toArray⟩) ∧ Below w.heap.size w w' := by
  have hb1 := (Below.refl w.heap.size w).alloc (Nat.le_refl _) (.cells #[.string ⟨#[84, 105, 66]⟩, .string ⟨#[71, 105, 66]⟩, .string ⟨#[77, 105, 66]⟩, .string ⟨#[75, 105, 66]⟩] 9)
  by_cases hz : n = 0
  · subst hz
    have hqb : quantB 0 = true := by decide
    go_enter Tryd.func17, Tryd.ntmps17
    go_wp2_with fail
    go_loopw [4] (fun i w' => i = .int .i64 0 ∧ w' = (w.alloc (.cells #[.string ⟨#[84, 105, 66]⟩, .string ⟨#[71, 105, 66]⟩, .string ⟨#[77, 105, 66]⟩, .string ⟨#[75, 105, 66]⟩] 9))) (fun _ _ => 0)
    case atStart => exact ⟨rfl, rfl⟩
    case round =>
      obtain ⟨rfl, rfl⟩ := hrel
      go_wp2_with fail
      refine (quant_any _ _).mono ?_
      rintro e w' ⟨rfl, rfl⟩
      go_wp2_with fail
      refine (rtext_any _ _).mono ?_
      rintro e w' ⟨rfl, hb2⟩
      go_wp2_with fail
      go_ret
      exact ⟨rfl, below_next hb1 hb2⟩
  · have hqb : quantB n = false := by
      rw [Bool.eq_false_iff]; intro k; unfold quantB at k
      simp only [Bool.and_eq_true, decide_eq_true_eq] at k
      omega
    clear h
    go_enter Tryd.func17, Tryd.ntmps17
    go_wp2_with fail
    go_loopw [4] (fun i w' => i = .int .i64 0 ∧ w' = (w.alloc (.cells #[.string ⟨#[84, 105, 66]⟩, .string ⟨#[71, 105, 66]⟩, .string ⟨#[77, 105, 66]⟩, .string ⟨#[75, 105, 66]⟩] 9))) (fun _ _ => 0)
    case atStart => exact ⟨rfl, rfl⟩
    case round =>
      obtain ⟨rfl, rfl⟩ := hrel
      go_wp2_with fail
      refine (quant_any _ _).mono ?_
      rintro e w' ⟨rfl, rfl⟩
      go_wp2_with fail
      refine (rtext_any _ _).mono ?_
      rintro e w' ⟨rfl, hb2⟩
      go_wp2_with fail
      go_ret
      exact ⟨rfl, below_next hb1 hb2⟩

set_option maxRecDepth 100000 in
set_option maxHeartbeats 4000000 in
theorem rsizetext_mid (n : Int) (w : World) (h0 : 0 < n) (h1 : n ≤ 1099511627776) : Calls Tryd.prog 17 #[.int .i64 n] w fun e w' => e = .returned (.string ⟨(sizeTextL n).toArray⟩) ∧ Below w.heap.size w w' := by
  have hqb : quantB n = true := by unfold quantB; rw [decide_eq_true (by omega), decide_eq_true h1]; rfl
  have hb1 := (Below.refl w.heap.size w).alloc (Nat.le_refl _) (.cells #[.string ⟨#[84, 105, 66]⟩, .string ⟨#[71, 105, 66]⟩, .string ⟨#[77, 105, 66]⟩, .string ⟨#[75, 105, 66]⟩] 9)
  have hf1 := Four.mk0 w
  go_enter Tryd.func17, Tryd.ntmps17
  go_wp2
  go_loopw [4] (fun i w' => ∃ k : Nat, k ≤ 4 ∧ i = .int .i64 k ∧ (nameK.take k).all (fun p => !(n % p.2 == 0)) = true ∧ Four w.heap.size w' ∧ Below w.heap.size w w') (fun i _ => 4 - (intOf i).toNat)
  case atStart => exact ⟨0, by omega, rfl, rfl, hf1, hb1⟩
  case round =>
    clear hb1 hf1
    obtain ⟨k, hk, rfl, hall, hfo, hbe⟩ := hrel
    have HA := Lib.hid hall
    have HF := Lib.hid hfo
    have HB := Lib.hid hbe
    obtain ⟨c0, c1, c2, c3⟩ := hfo
    clear hall hbe
    by_cases h4 : k = 4
    · subst h4
      go_wp2_with fail
      refine (rtext_any n _).mono ?_
      rintro e w' ⟨rfl, hb⟩
      have hb2 := below_next HB.out hb
      clear hb
      go_wp2
      go_ret
      exact ⟨ret_str (find_no HA.out), hb2⟩
    rcases (show k = 0 ∨ k = 1 ∨ k = 2 ∨ k = 3 from by omega) with rfl | rfl | rfl | rfl
    · have hd : 0 ≤ n.tdiv 1099511627776 ∧ n.tdiv 1099511627776 ≤ 1099511627776 := by rw [Int.tdiv_eq_ediv_of_nonneg (by omega)]; omega
      have ht : 0 ≤ n % 1099511627776 ∧ n % 1099511627776 ≤ 1099511627776 := by omega
      obtain ⟨d1, d2⟩ := hd
      obtain ⟨t1, t2⟩ := ht
      have hbu : byU (⟨#[84, 105, 66]⟩ : ByteArray).data.toList = 1099511627776 := by decide
      have HBU := Lib.hid hbu
      have hlen := textL_len (n.tdiv 1099511627776)
      have hlen2 := textL_len (n / 1099511627776)
      clear hbu
      cases hm : n % 1099511627776 == 0 with
      | false =>
        go_wp2_with fail
        refine (quant_any _ _).mono ?_
        rintro e w' ⟨rfl, rfl⟩
        go_wp2_with fail
        refine (by_l (t := ⟨#[84, 105, 66]⟩) rfl HBU.out).mono ?_
        rintro e w2 ⟨rfl, hb2⟩
        have HF2 := Lib.hid (HF.out.next hb2)
        have HB2 := Lib.hid (below_next HB.out hb2)
        clear hb2
        go_wp2_with fail
        refine ⟨⟨0 + 1, (by decide : 0 + 1 ≤ 4), rfl, next_k HA.out rfl hm, HF2.out, HB2.out⟩, by simp [intOf]⟩
      | true =>
        go_wp2_with fail
        refine (quant_any _ _).mono ?_
        rintro e w' ⟨rfl, rfl⟩
        go_wp2_with fail
        refine (by_s (w0 := w) (p := ⟨w.heap.size, 0, none⟩) HBU.out ⟨c0, HB.out⟩).mono ?_
        rintro e w2 ⟨rfl, hS⟩
        have hS1 := hS.1
        go_wp2_with fail
        go_region_held3 (fun w' => w'.cell? ⟨w.heap.size, 0, none⟩ = some (.string ⟨#[84, 105, 66]⟩) ∧ Below w.heap.size w w')
          (first | assumption | (refine ⟨?_, ?_⟩ <;> first | assumption | exact hS.2 | exact hS.2.drew | exact Below.drew (by assumption) | go_keep))
          (first
            | (go_at_call 24; refine (by_s HBU.out (by assumption)).mono ?_; rintro e w' ⟨rfl, hkeep⟩)
            | (go_at_call 16; refine (rtext_s _ (by assumption)).mono ?_; rintro e w' ⟨l, hl13, hlt, rfl, hkeep⟩; have hcat : ¬ 9223372036854775807 < l.length + 3 := by omega))
        go_wp2_with fail
        go_ret
        have hl := hlt.out
        rw [IntKind.wrap_i64, show ∀ x : Int, 0 ≤ x → x ≤ 1099511627776 → (x + 9223372036854775808) % 18446744073709551616 - 9223372036854775808 = x from fun x a b => by omega] at hl
        · exact ⟨ret_cat ((congrArg (· ++ _) hl).trans (find_k HA.out rfl hm ⟨h0, h1⟩)), hkeep.2⟩
        · exact d1
        · exact d2
    · have hd : 0 ≤ n.tdiv 1073741824 ∧ n.tdiv 1073741824 ≤ 1099511627776 := by rw [Int.tdiv_eq_ediv_of_nonneg (by omega)]; omega
      have ht : 0 ≤ n % 1073741824 ∧ n % 1073741824 ≤ 1099511627776 := by omega
      obtain ⟨d1, d2⟩ := hd
      obtain ⟨t1, t2⟩ := ht
      have hbu : byU (⟨#[71, 105, 66]⟩ : ByteArray).data.toList = 1073741824 := by decide
      have HBU := Lib.hid hbu
      have hlen := textL_len (n.tdiv 1073741824)
      have hlen2 := textL_len (n / 1073741824)
      clear hbu
      cases hm : n % 1073741824 == 0 with
      | false =>
        go_wp2_with fail
        refine (quant_any _ _).mono ?_
        rintro e w' ⟨rfl, rfl⟩
        go_wp2_with fail
        refine (by_l (t := ⟨#[71, 105, 66]⟩) rfl HBU.out).mono ?_
        rintro e w2 ⟨rfl, hb2⟩
        have HF2 := Lib.hid (HF.out.next hb2)
        have HB2 := Lib.hid (below_next HB.out hb2)
        clear hb2
        go_wp2_with fail
        refine ⟨⟨1 + 1, (by decide : 1 + 1 ≤ 4), rfl, next_k HA.out rfl hm, HF2.out, HB2.out⟩, by simp [intOf]⟩
      | true =>
        go_wp2_with fail
        refine (quant_any _ _).mono ?_
        rintro e w' ⟨rfl, rfl⟩
        go_wp2_with fail
        refine (by_s (w0 := w) (p := ⟨w.heap.size, 1, none⟩) HBU.out ⟨c1, HB.out⟩).mono ?_
        rintro e w2 ⟨rfl, hS⟩
        have hS1 := hS.1
        go_wp2_with fail
        go_region_held3 (fun w' => w'.cell? ⟨w.heap.size, 1, none⟩ = some (.string ⟨#[71, 105, 66]⟩) ∧ Below w.heap.size w w')
          (first | assumption | (refine ⟨?_, ?_⟩ <;> first | assumption | exact hS.2 | exact hS.2.drew | exact Below.drew (by assumption) | go_keep))
          (first
            | (go_at_call 24; refine (by_s HBU.out (by assumption)).mono ?_; rintro e w' ⟨rfl, hkeep⟩)
            | (go_at_call 16; refine (rtext_s _ (by assumption)).mono ?_; rintro e w' ⟨l, hl13, hlt, rfl, hkeep⟩; have hcat : ¬ 9223372036854775807 < l.length + 3 := by omega))
        go_wp2_with fail
        go_ret
        have hl := hlt.out
        rw [IntKind.wrap_i64, show ∀ x : Int, 0 ≤ x → x ≤ 1099511627776 → (x + 9223372036854775808) % 18446744073709551616 - 9223372036854775808 = x from fun x a b => by omega] at hl
        · exact ⟨ret_cat ((congrArg (· ++ _) hl).trans (find_k HA.out rfl hm ⟨h0, h1⟩)), hkeep.2⟩
        · exact d1
        · exact d2
    · have hd : 0 ≤ n.tdiv 1048576 ∧ n.tdiv 1048576 ≤ 1099511627776 := by rw [Int.tdiv_eq_ediv_of_nonneg (by omega)]; omega
      have ht : 0 ≤ n % 1048576 ∧ n % 1048576 ≤ 1099511627776 := by omega
      obtain ⟨d1, d2⟩ := hd
      obtain ⟨t1, t2⟩ := ht
      have hbu : byU (⟨#[77, 105, 66]⟩ : ByteArray).data.toList = 1048576 := by decide
      have HBU := Lib.hid hbu
      have hlen := textL_len (n.tdiv 1048576)
      have hlen2 := textL_len (n / 1048576)
      clear hbu
      cases hm : n % 1048576 == 0 with
      | false =>
        go_wp2_with fail
        refine (quant_any _ _).mono ?_
        rintro e w' ⟨rfl, rfl⟩
        go_wp2_with fail
        refine (by_l (t := ⟨#[77, 105, 66]⟩) rfl HBU.out).mono ?_
        rintro e w2 ⟨rfl, hb2⟩
        have HF2 := Lib.hid (HF.out.next hb2)
        have HB2 := Lib.hid (below_next HB.out hb2)
        clear hb2
        go_wp2_with fail
        refine ⟨⟨2 + 1, (by decide : 2 + 1 ≤ 4), rfl, next_k HA.out rfl hm, HF2.out, HB2.out⟩, by simp [intOf]⟩
      | true =>
        go_wp2_with fail
        refine (quant_any _ _).mono ?_
        rintro e w' ⟨rfl, rfl⟩
        go_wp2_with fail
        refine (by_s (w0 := w) (p := ⟨w.heap.size, 2, none⟩) HBU.out ⟨c2, HB.out⟩).mono ?_
        rintro e w2 ⟨rfl, hS⟩
        have hS1 := hS.1
        go_wp2_with fail
        go_region_held3 (fun w' => w'.cell? ⟨w.heap.size, 2, none⟩ = some (.string ⟨#[77, 105, 66]⟩) ∧ Below w.heap.size w w')
          (first | assumption | (refine ⟨?_, ?_⟩ <;> first | assumption | exact hS.2 | exact hS.2.drew | exact Below.drew (by assumption) | go_keep))
          (first
            | (go_at_call 24; refine (by_s HBU.out (by assumption)).mono ?_; rintro e w' ⟨rfl, hkeep⟩)
            | (go_at_call 16; refine (rtext_s _ (by assumption)).mono ?_; rintro e w' ⟨l, hl13, hlt, rfl, hkeep⟩; have hcat : ¬ 9223372036854775807 < l.length + 3 := by omega))
        go_wp2_with fail
        go_ret
        have hl := hlt.out
        rw [IntKind.wrap_i64, show ∀ x : Int, 0 ≤ x → x ≤ 1099511627776 → (x + 9223372036854775808) % 18446744073709551616 - 9223372036854775808 = x from fun x a b => by omega] at hl
        · exact ⟨ret_cat ((congrArg (· ++ _) hl).trans (find_k HA.out rfl hm ⟨h0, h1⟩)), hkeep.2⟩
        · exact d1
        · exact d2
    · have hd : 0 ≤ n.tdiv 1024 ∧ n.tdiv 1024 ≤ 1099511627776 := by rw [Int.tdiv_eq_ediv_of_nonneg (by omega)]; omega
      have ht : 0 ≤ n % 1024 ∧ n % 1024 ≤ 1099511627776 := by omega
      obtain ⟨d1, d2⟩ := hd
      obtain ⟨t1, t2⟩ := ht
      have hbu : byU (⟨#[75, 105, 66]⟩ : ByteArray).data.toList = 1024 := by decide
      have HBU := Lib.hid hbu
      have hlen := textL_len (n.tdiv 1024)
      have hlen2 := textL_len (n / 1024)
      clear hbu
      cases hm : n % 1024 == 0 with
      | false =>
        go_wp2_with fail
        refine (quant_any _ _).mono ?_
        rintro e w' ⟨rfl, rfl⟩
        go_wp2_with fail
        refine (by_l (t := ⟨#[75, 105, 66]⟩) rfl HBU.out).mono ?_
        rintro e w2 ⟨rfl, hb2⟩
        have HF2 := Lib.hid (HF.out.next hb2)
        have HB2 := Lib.hid (below_next HB.out hb2)
        clear hb2
        go_wp2_with fail
        refine ⟨⟨3 + 1, (by decide : 3 + 1 ≤ 4), rfl, next_k HA.out rfl hm, HF2.out, HB2.out⟩, by simp [intOf]⟩
      | true =>
        go_wp2_with fail
        refine (quant_any _ _).mono ?_
        rintro e w' ⟨rfl, rfl⟩
        go_wp2_with fail
        refine (by_s (w0 := w) (p := ⟨w.heap.size, 3, none⟩) HBU.out ⟨c3, HB.out⟩).mono ?_
        rintro e w2 ⟨rfl, hS⟩
        have hS1 := hS.1
        go_wp2_with fail
        go_region_held3 (fun w' => w'.cell? ⟨w.heap.size, 3, none⟩ = some (.string ⟨#[75, 105, 66]⟩) ∧ Below w.heap.size w w')
          (first | assumption | (refine ⟨?_, ?_⟩ <;> first | assumption | exact hS.2 | exact hS.2.drew | exact Below.drew (by assumption) | go_keep))
          (first
            | (go_at_call 24; refine (by_s HBU.out (by assumption)).mono ?_; rintro e w' ⟨rfl, hkeep⟩)
            | (go_at_call 16; refine (rtext_s _ (by assumption)).mono ?_; rintro e w' ⟨l, hl13, hlt, rfl, hkeep⟩; have hcat : ¬ 9223372036854775807 < l.length + 3 := by omega))
        go_wp2_with fail
        go_ret
        have hl := hlt.out
        rw [IntKind.wrap_i64, show ∀ x : Int, 0 ≤ x → x ≤ 1099511627776 → (x + 9223372036854775808) % 18446744073709551616 - 9223372036854775808 = x from fun x a b => by omega] at hl
        · exact ⟨ret_cat ((congrArg (· ++ _) hl).trans (find_k HA.out rfl hm ⟨h0, h1⟩)), hkeep.2⟩
        · exact d1
        · exact d2

theorem rsizetext_any (n : Int) (w : World) : Calls Tryd.prog 17 #[.int .i64 n] w fun e w' => e = .returned (.string ⟨(sizeTextL n).toArray⟩) ∧ Below w.heap.size w w' := by
  by_cases a : 0 < n ∧ n ≤ 1099511627776
  · exact rsizetext_mid n w a.1 a.2
  · have := rsizetext_out n w a
    rwa [show textL n = sizeTextL n from by unfold sizeTextL; rw [if_neg a]] at this
end Go.Proofs.YteamacekhfncnaaDoor

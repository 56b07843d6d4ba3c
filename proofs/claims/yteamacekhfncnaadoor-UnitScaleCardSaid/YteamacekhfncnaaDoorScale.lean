/-
  UnitScale, walked: it answers true for every number and every byte, where the units' table and the powers of ten stand. Nothing else is asked.
-/
import Derived.Test.YteamacekhfncnaaDoorHead
import Derived.Deep.RegionHeld3
namespace Go.Proofs.YteamacekhfncnaaDoor
open Go.RowKit
open Go.Lib (decDigits)

theorem size_of {n : Int} {u : List UInt8} {b : Int} (h0 : 0 ≤ n) (h1 : n ≤ 1099511627776) (hu : byU u = b) (hb : b ≠ 0) :
    (n ≤ 1099511627776 / b → sizeV (textL n ++ u) = n * b ∧ sizeE (textL n ++ u) = 0) ∧ (¬ n ≤ 1099511627776 / b → sizeV (textL n ++ u) = 0 ∧ sizeE (textL n ++ u) = 130) := by
  subst hu
  have ht : textL n = decDigits n.toNat := by unfold textL; rw [if_pos ⟨h0, by unfold top; omega⟩]
  have hk : okN (decDigits n.toNat) = true := decDigits_ok (by unfold top; omega)
  obtain ⟨e1, e2⟩ := parted_head (l := textL n ++ u) (d := decDigits n.toNat) (u := u) (by rw [ht]) hk hb
  have hv : (val (decDigits n.toNat) : Int) = n := by rw [val_decDigits]; omega
  constructor
  · intro h
    have := size_yes (l := textL n ++ u) (by rw [e1, e2]; unfold okAt; rw [hk, hv, decide_eq_true h]; simpa using hb)
    rw [e1, e2, hv] at this
    exact this
  · intro h
    exact size_no (l := textL n ++ u) (by rw [e1, e2]; unfold okAt; rw [hv, decide_eq_false h]; simp)

structure Sta (w0 w : World) : Prop where
  pow : Pow w
  units : Units w
  below : Below w0.heap.size w0 w
theorem Sta.next {w0 w w' : World} (h : Sta w0 w) (hb : Below w.heap.size w w') : Sta w0 w' := ⟨h.pow.below hb, h.units.below hb, below_next h.below hb⟩
theorem Sta.drew {w0 w : World} (h : Sta w0 w) : Sta w0 w.drew := h.next (Below.refl _ _).drew
theorem Sta.two {w : World} (hp : Pow w) (hu : Units w) (o1 o2 : Obj) : Sta w ((w.alloc o1).alloc o2) :=
  ⟨hp.below (below_two _ _ _), hu.below (below_two _ _ _), below_two _ _ _⟩

theorem text_s {w0 w1 : World} {p q : Addr} {u v : Value} (n : Int) (h0 : -9223372036854775808 ≤ n) (h1 : n ≤ 9223372036854775807) (h : w1.cell? p = some u ∧ w1.cell? q = some v ∧ Sta w0 w1) :
    Calls Tryd.prog 14 #[.int .i64 n] w1 fun e w' => e = .returned (.string ⟨(textL n).toArray⟩) ∧ (w'.cell? p = some u ∧ w'.cell? q = some v ∧ Sta w0 w') :=
  (text_any n w1 h0 h1 h.2.2.pow).mono fun _ _ ⟨he, hb⟩ => ⟨he, (hb.cell (World.block_lt_of_cell? w1 _ h.1)).trans h.1, (hb.cell (World.block_lt_of_cell? w1 _ h.2.1)).trans h.2.1, h.2.2.next hb⟩
theorem size_s {w0 w1 : World} {p q : Addr} {u v : Value} {s : ByteArray} {a b : Int} (hs : s.size ≤ 140737488351232) (ha : sizeV s.data.toList = a) (hb : sizeE s.data.toList = b) (h : w1.cell? p = some u ∧ w1.cell? q = some v ∧ Sta w0 w1) :
    Calls Tryd.prog 10 #[.string s] w1 fun e w' => e = .returned (.tuple #[.int .i64 a, .int .i64 b]) ∧ (w'.cell? p = some u ∧ w'.cell? q = some v ∧ Sta w0 w') := by
  subst ha hb
  exact (size_any s w1 hs h.2.2.units).mono fun _ _ ⟨he, hb⟩ => ⟨he, (hb.cell (World.block_lt_of_cell? w1 _ h.1)).trans h.1, (hb.cell (World.block_lt_of_cell? w1 _ h.2.1)).trans h.2.1, h.2.2.next hb⟩

theorem cat_data (l : List UInt8) (u : ByteArray) : ((⟨l.toArray⟩ : ByteArray) ++ u).data.toList = l ++ u.data.toList := by simp
set_option maxRecDepth 100000 in
set_option maxHeartbeats 4000000 in
theorem scale0 (n c : Int) (w : World) (hp : Pow w) (hu : Units w) (h0 : 0 ≤ n) (h1 : n ≤ 1099511627776) (hk : c.tmod 8 = 0) (hc0 : 0 ≤ c) (hc1 : c ≤ 255) : Calls Tryd.prog 5 #[.int .i64 n, .int .u8 c] w fun e w' => e = .returned (.bool true) ∧ Below w.heap.size w w' := by
  have hqb : quantB n = true := by unfold quantB; rw [decide_eq_true h0, decide_eq_true h1]; rfl
  have hSta := Sta.two hp hu
  have hlen := textL_len n
  have hcs : ((⟨(textL n).toArray⟩ : ByteArray) ++ ⟨#[75, 66]⟩).size ≤ 140737488351232 := by
    rw [ByteArray.size_append, show (⟨(textL n).toArray⟩ : ByteArray).size = (textL n).length from rfl, show (⟨#[75, 66]⟩ : ByteArray).size = 2 from rfl]; omega
  have hcat : ¬ 9223372036854775807 < (textL n).length + 2 := by omega
  obtain ⟨hgood, hover⟩ := size_of (n := n) (u := [75, 66]) (b := 1000) h0 h1 (by decide) (by decide)
  have hcd := cat_data (textL n) ⟨#[75, 66]⟩
  by_cases hn : n ≤ 1099511627
  · obtain ⟨e1, e2⟩ := hgood (by omega)
    have hgt : ¬ 1099511627 < n := by omega
    rw [show ([75, 66] : List UInt8) = (⟨#[75, 66]⟩ : ByteArray).data.toList from rfl, ← hcd] at e1 e2
    have E1 := Lib.hid e1
    have E2 := Lib.hid e2
    have HCS := Lib.hid hcs
    clear e1 e2 hcs hcd hgood hover
    go_enter Tryd.func5, Tryd.ntmps5
    go_wp2_with fail
    refine (quant_any _ _).mono ?_
    rintro e w' ⟨rfl, rfl⟩
    go_wp2_with fail
    go_region_held3 (fun w' => w'.cell? ⟨w.heap.size, 0, none⟩ = some (.string ⟨#[75, 66]⟩) ∧ w'.cell? ⟨w.heap.size + 1, 0, none⟩ = some (.int .i64 1000) ∧ Sta w w')
      (first | assumption | (refine ⟨?_, ?_, ?_⟩ <;> first | assumption | exact hSta _ _ | exact Sta.drew (hSta _ _) | exact Sta.drew (by assumption) | go_keep))
      (first
        | (go_at_call 14; refine (text_s n (by omega) (by omega) (by assumption)).mono ?_; rintro e w' ⟨rfl, hkeep⟩)
        | (go_at_call 10; refine (size_s HCS.out E1.out E2.out (by assumption)).mono ?_; rintro e w' ⟨rfl, hkeep⟩))
    obtain ⟨x1, x2, x3⟩ := hkeep
    go_wp2_with fail
    refine (head_any _ x3.pow x3.units).mono ?_
    rintro e w2 ⟨rfl, hb2⟩
    have hb := below_next x3.below hb2
    clear hb2
    go_wp2
    go_ret
    exact ⟨rfl, hb⟩
  · obtain ⟨e1, e2⟩ := hover (by omega)
    have hgt : 1099511627 < n := by omega
    rw [show ([75, 66] : List UInt8) = (⟨#[75, 66]⟩ : ByteArray).data.toList from rfl, ← hcd] at e1 e2
    have E1 := Lib.hid e1
    have E2 := Lib.hid e2
    have HCS := Lib.hid hcs
    clear e1 e2 hcs hcd hgood hover
    go_enter Tryd.func5, Tryd.ntmps5
    go_wp2_with fail
    refine (quant_any _ _).mono ?_
    rintro e w' ⟨rfl, rfl⟩
    go_wp2_with fail
    go_region_held3 (fun w' => w'.cell? ⟨w.heap.size, 0, none⟩ = some (.string ⟨#[75, 66]⟩) ∧ w'.cell? ⟨w.heap.size + 1, 0, none⟩ = some (.int .i64 1000) ∧ Sta w w')
      (first | assumption | (refine ⟨?_, ?_, ?_⟩ <;> first | assumption | exact hSta _ _ | exact Sta.drew (hSta _ _) | exact Sta.drew (by assumption) | go_keep))
      (first
        | (go_at_call 14; refine (text_s n (by omega) (by omega) (by assumption)).mono ?_; rintro e w' ⟨rfl, hkeep⟩)
        | (go_at_call 10; refine (size_s HCS.out E1.out E2.out (by assumption)).mono ?_; rintro e w' ⟨rfl, hkeep⟩))
    obtain ⟨x1, x2, x3⟩ := hkeep
    go_wp2_with fail
    refine (head_any _ x3.pow x3.units).mono ?_
    rintro e w2 ⟨rfl, hb2⟩
    have hb := below_next x3.below hb2
    clear hb2
    go_wp2
    go_ret
    exact ⟨rfl, hb⟩


set_option maxRecDepth 100000 in
set_option maxHeartbeats 4000000 in
theorem scale1 (n c : Int) (w : World) (hp : Pow w) (hu : Units w) (h0 : 0 ≤ n) (h1 : n ≤ 1099511627776) (hk : c.tmod 8 = 1) (hc0 : 0 ≤ c) (hc1 : c ≤ 255) : Calls Tryd.prog 5 #[.int .i64 n, .int .u8 c] w fun e w' => e = .returned (.bool true) ∧ Below w.heap.size w w' := by
  have hqb : quantB n = true := by unfold quantB; rw [decide_eq_true h0, decide_eq_true h1]; rfl
  have hSta := Sta.two hp hu
  have hlen := textL_len n
  have hcs : ((⟨(textL n).toArray⟩ : ByteArray) ++ ⟨#[77, 66]⟩).size ≤ 140737488351232 := by
    rw [ByteArray.size_append, show (⟨(textL n).toArray⟩ : ByteArray).size = (textL n).length from rfl, show (⟨#[77, 66]⟩ : ByteArray).size = 2 from rfl]; omega
  have hcat : ¬ 9223372036854775807 < (textL n).length + 2 := by omega
  obtain ⟨hgood, hover⟩ := size_of (n := n) (u := [77, 66]) (b := 1000000) h0 h1 (by decide) (by decide)
  have hcd := cat_data (textL n) ⟨#[77, 66]⟩
  by_cases hn : n ≤ 1099511
  · obtain ⟨e1, e2⟩ := hgood (by omega)
    have hgt : ¬ 1099511 < n := by omega
    rw [show ([77, 66] : List UInt8) = (⟨#[77, 66]⟩ : ByteArray).data.toList from rfl, ← hcd] at e1 e2
    have E1 := Lib.hid e1
    have E2 := Lib.hid e2
    have HCS := Lib.hid hcs
    clear e1 e2 hcs hcd hgood hover
    go_enter Tryd.func5, Tryd.ntmps5
    go_wp2_with fail
    refine (quant_any _ _).mono ?_
    rintro e w' ⟨rfl, rfl⟩
    go_wp2_with fail
    go_region_held3 (fun w' => w'.cell? ⟨w.heap.size, 1, none⟩ = some (.string ⟨#[77, 66]⟩) ∧ w'.cell? ⟨w.heap.size + 1, 1, none⟩ = some (.int .i64 1000000) ∧ Sta w w')
      (first | assumption | (refine ⟨?_, ?_, ?_⟩ <;> first | assumption | exact hSta _ _ | exact Sta.drew (hSta _ _) | exact Sta.drew (by assumption) | go_keep))
      (first
        | (go_at_call 14; refine (text_s n (by omega) (by omega) (by assumption)).mono ?_; rintro e w' ⟨rfl, hkeep⟩)
        | (go_at_call 10; refine (size_s HCS.out E1.out E2.out (by assumption)).mono ?_; rintro e w' ⟨rfl, hkeep⟩))
    obtain ⟨x1, x2, x3⟩ := hkeep
    go_wp2_with fail
    refine (head_any _ x3.pow x3.units).mono ?_
    rintro e w2 ⟨rfl, hb2⟩
    have hb := below_next x3.below hb2
    clear hb2
    go_wp2
    go_ret
    exact ⟨rfl, hb⟩
  · obtain ⟨e1, e2⟩ := hover (by omega)
    have hgt : 1099511 < n := by omega
    rw [show ([77, 66] : List UInt8) = (⟨#[77, 66]⟩ : ByteArray).data.toList from rfl, ← hcd] at e1 e2
    have E1 := Lib.hid e1
    have E2 := Lib.hid e2
    have HCS := Lib.hid hcs
    clear e1 e2 hcs hcd hgood hover
    go_enter Tryd.func5, Tryd.ntmps5
    go_wp2_with fail
    refine (quant_any _ _).mono ?_
    rintro e w' ⟨rfl, rfl⟩
    go_wp2_with fail
    go_region_held3 (fun w' => w'.cell? ⟨w.heap.size, 1, none⟩ = some (.string ⟨#[77, 66]⟩) ∧ w'.cell? ⟨w.heap.size + 1, 1, none⟩ = some (.int .i64 1000000) ∧ Sta w w')
      (first | assumption | (refine ⟨?_, ?_, ?_⟩ <;> first | assumption | exact hSta _ _ | exact Sta.drew (hSta _ _) | exact Sta.drew (by assumption) | go_keep))
      (first
        | (go_at_call 14; refine (text_s n (by omega) (by omega) (by assumption)).mono ?_; rintro e w' ⟨rfl, hkeep⟩)
        | (go_at_call 10; refine (size_s HCS.out E1.out E2.out (by assumption)).mono ?_; rintro e w' ⟨rfl, hkeep⟩))
    obtain ⟨x1, x2, x3⟩ := hkeep
    go_wp2_with fail
    refine (head_any _ x3.pow x3.units).mono ?_
    rintro e w2 ⟨rfl, hb2⟩
    have hb := below_next x3.below hb2
    clear hb2
    go_wp2
    go_ret
    exact ⟨rfl, hb⟩


set_option maxRecDepth 100000 in
set_option maxHeartbeats 4000000 in
theorem scale2 (n c : Int) (w : World) (hp : Pow w) (hu : Units w) (h0 : 0 ≤ n) (h1 : n ≤ 1099511627776) (hk : c.tmod 8 = 2) (hc0 : 0 ≤ c) (hc1 : c ≤ 255) : Calls Tryd.prog 5 #[.int .i64 n, .int .u8 c] w fun e w' => e = .returned (.bool true) ∧ Below w.heap.size w w' := by
  have hqb : quantB n = true := by unfold quantB; rw [decide_eq_true h0, decide_eq_true h1]; rfl
  have hSta := Sta.two hp hu
  have hlen := textL_len n
  have hcs : ((⟨(textL n).toArray⟩ : ByteArray) ++ ⟨#[71, 66]⟩).size ≤ 140737488351232 := by
    rw [ByteArray.size_append, show (⟨(textL n).toArray⟩ : ByteArray).size = (textL n).length from rfl, show (⟨#[71, 66]⟩ : ByteArray).size = 2 from rfl]; omega
  have hcat : ¬ 9223372036854775807 < (textL n).length + 2 := by omega
  obtain ⟨hgood, hover⟩ := size_of (n := n) (u := [71, 66]) (b := 1000000000) h0 h1 (by decide) (by decide)
  have hcd := cat_data (textL n) ⟨#[71, 66]⟩
  by_cases hn : n ≤ 1099
  · obtain ⟨e1, e2⟩ := hgood (by omega)
    have hgt : ¬ 1099 < n := by omega
    rw [show ([71, 66] : List UInt8) = (⟨#[71, 66]⟩ : ByteArray).data.toList from rfl, ← hcd] at e1 e2
    have E1 := Lib.hid e1
    have E2 := Lib.hid e2
    have HCS := Lib.hid hcs
    clear e1 e2 hcs hcd hgood hover
    go_enter Tryd.func5, Tryd.ntmps5
    go_wp2_with fail
    refine (quant_any _ _).mono ?_
    rintro e w' ⟨rfl, rfl⟩
    go_wp2_with fail
    go_region_held3 (fun w' => w'.cell? ⟨w.heap.size, 2, none⟩ = some (.string ⟨#[71, 66]⟩) ∧ w'.cell? ⟨w.heap.size + 1, 2, none⟩ = some (.int .i64 1000000000) ∧ Sta w w')
      (first | assumption | (refine ⟨?_, ?_, ?_⟩ <;> first | assumption | exact hSta _ _ | exact Sta.drew (hSta _ _) | exact Sta.drew (by assumption) | go_keep))
      (first
        | (go_at_call 14; refine (text_s n (by omega) (by omega) (by assumption)).mono ?_; rintro e w' ⟨rfl, hkeep⟩)
        | (go_at_call 10; refine (size_s HCS.out E1.out E2.out (by assumption)).mono ?_; rintro e w' ⟨rfl, hkeep⟩))
    obtain ⟨x1, x2, x3⟩ := hkeep
    go_wp2_with fail
    refine (head_any _ x3.pow x3.units).mono ?_
    rintro e w2 ⟨rfl, hb2⟩
    have hb := below_next x3.below hb2
    clear hb2
    go_wp2
    go_ret
    exact ⟨rfl, hb⟩
  · obtain ⟨e1, e2⟩ := hover (by omega)
    have hgt : 1099 < n := by omega
    rw [show ([71, 66] : List UInt8) = (⟨#[71, 66]⟩ : ByteArray).data.toList from rfl, ← hcd] at e1 e2
    have E1 := Lib.hid e1
    have E2 := Lib.hid e2
    have HCS := Lib.hid hcs
    clear e1 e2 hcs hcd hgood hover
    go_enter Tryd.func5, Tryd.ntmps5
    go_wp2_with fail
    refine (quant_any _ _).mono ?_
    rintro e w' ⟨rfl, rfl⟩
    go_wp2_with fail
    go_region_held3 (fun w' => w'.cell? ⟨w.heap.size, 2, none⟩ = some (.string ⟨#[71, 66]⟩) ∧ w'.cell? ⟨w.heap.size + 1, 2, none⟩ = some (.int .i64 1000000000) ∧ Sta w w')
      (first | assumption | (refine ⟨?_, ?_, ?_⟩ <;> first | assumption | exact hSta _ _ | exact Sta.drew (hSta _ _) | exact Sta.drew (by assumption) | go_keep))
      (first
        | (go_at_call 14; refine (text_s n (by omega) (by omega) (by assumption)).mono ?_; rintro e w' ⟨rfl, hkeep⟩)
        | (go_at_call 10; refine (size_s HCS.out E1.out E2.out (by assumption)).mono ?_; rintro e w' ⟨rfl, hkeep⟩))
    obtain ⟨x1, x2, x3⟩ := hkeep
    go_wp2_with fail
    refine (head_any _ x3.pow x3.units).mono ?_
    rintro e w2 ⟨rfl, hb2⟩
    have hb := below_next x3.below hb2
    clear hb2
    go_wp2
    go_ret
    exact ⟨rfl, hb⟩


set_option maxRecDepth 100000 in
set_option maxHeartbeats 4000000 in
theorem scale3 (n c : Int) (w : World) (hp : Pow w) (hu : Units w) (h0 : 0 ≤ n) (h1 : n ≤ 1099511627776) (hk : c.tmod 8 = 3) (hc0 : 0 ≤ c) (hc1 : c ≤ 255) : Calls Tryd.prog 5 #[.int .i64 n, .int .u8 c] w fun e w' => e = .returned (.bool true) ∧ Below w.heap.size w w' := by
  have hqb : quantB n = true := by unfold quantB; rw [decide_eq_true h0, decide_eq_true h1]; rfl
  have hSta := Sta.two hp hu
  have hlen := textL_len n
  have hcs : ((⟨(textL n).toArray⟩ : ByteArray) ++ ⟨#[84, 66]⟩).size ≤ 140737488351232 := by
    rw [ByteArray.size_append, show (⟨(textL n).toArray⟩ : ByteArray).size = (textL n).length from rfl, show (⟨#[84, 66]⟩ : ByteArray).size = 2 from rfl]; omega
  have hcat : ¬ 9223372036854775807 < (textL n).length + 2 := by omega
  obtain ⟨hgood, hover⟩ := size_of (n := n) (u := [84, 66]) (b := 1000000000000) h0 h1 (by decide) (by decide)
  have hcd := cat_data (textL n) ⟨#[84, 66]⟩
  by_cases hn : n ≤ 1
  · obtain ⟨e1, e2⟩ := hgood (by omega)
    have hgt : ¬ 1 < n := by omega
    rw [show ([84, 66] : List UInt8) = (⟨#[84, 66]⟩ : ByteArray).data.toList from rfl, ← hcd] at e1 e2
    have E1 := Lib.hid e1
    have E2 := Lib.hid e2
    have HCS := Lib.hid hcs
    clear e1 e2 hcs hcd hgood hover
    go_enter Tryd.func5, Tryd.ntmps5
    go_wp2_with fail
    refine (quant_any _ _).mono ?_
    rintro e w' ⟨rfl, rfl⟩
    go_wp2_with fail
    go_region_held3 (fun w' => w'.cell? ⟨w.heap.size, 3, none⟩ = some (.string ⟨#[84, 66]⟩) ∧ w'.cell? ⟨w.heap.size + 1, 3, none⟩ = some (.int .i64 1000000000000) ∧ Sta w w')
      (first | assumption | (refine ⟨?_, ?_, ?_⟩ <;> first | assumption | exact hSta _ _ | exact Sta.drew (hSta _ _) | exact Sta.drew (by assumption) | go_keep))
      (first
        | (go_at_call 14; refine (text_s n (by omega) (by omega) (by assumption)).mono ?_; rintro e w' ⟨rfl, hkeep⟩)
        | (go_at_call 10; refine (size_s HCS.out E1.out E2.out (by assumption)).mono ?_; rintro e w' ⟨rfl, hkeep⟩))
    obtain ⟨x1, x2, x3⟩ := hkeep
    go_wp2_with fail
    refine (head_any _ x3.pow x3.units).mono ?_
    rintro e w2 ⟨rfl, hb2⟩
    have hb := below_next x3.below hb2
    clear hb2
    go_wp2
    go_ret
    exact ⟨rfl, hb⟩
  · obtain ⟨e1, e2⟩ := hover (by omega)
    have hgt : 1 < n := by omega
    rw [show ([84, 66] : List UInt8) = (⟨#[84, 66]⟩ : ByteArray).data.toList from rfl, ← hcd] at e1 e2
    have E1 := Lib.hid e1
    have E2 := Lib.hid e2
    have HCS := Lib.hid hcs
    clear e1 e2 hcs hcd hgood hover
    go_enter Tryd.func5, Tryd.ntmps5
    go_wp2_with fail
    refine (quant_any _ _).mono ?_
    rintro e w' ⟨rfl, rfl⟩
    go_wp2_with fail
    go_region_held3 (fun w' => w'.cell? ⟨w.heap.size, 3, none⟩ = some (.string ⟨#[84, 66]⟩) ∧ w'.cell? ⟨w.heap.size + 1, 3, none⟩ = some (.int .i64 1000000000000) ∧ Sta w w')
      (first | assumption | (refine ⟨?_, ?_, ?_⟩ <;> first | assumption | exact hSta _ _ | exact Sta.drew (hSta _ _) | exact Sta.drew (by assumption) | go_keep))
      (first
        | (go_at_call 14; refine (text_s n (by omega) (by omega) (by assumption)).mono ?_; rintro e w' ⟨rfl, hkeep⟩)
        | (go_at_call 10; refine (size_s HCS.out E1.out E2.out (by assumption)).mono ?_; rintro e w' ⟨rfl, hkeep⟩))
    obtain ⟨x1, x2, x3⟩ := hkeep
    go_wp2_with fail
    refine (head_any _ x3.pow x3.units).mono ?_
    rintro e w2 ⟨rfl, hb2⟩
    have hb := below_next x3.below hb2
    clear hb2
    go_wp2
    go_ret
    exact ⟨rfl, hb⟩


set_option maxRecDepth 100000 in
set_option maxHeartbeats 4000000 in
theorem scale4 (n c : Int) (w : World) (hp : Pow w) (hu : Units w) (h0 : 0 ≤ n) (h1 : n ≤ 1099511627776) (hk : c.tmod 8 = 4) (hc0 : 0 ≤ c) (hc1 : c ≤ 255) : Calls Tryd.prog 5 #[.int .i64 n, .int .u8 c] w fun e w' => e = .returned (.bool true) ∧ Below w.heap.size w w' := by
  have hqb : quantB n = true := by unfold quantB; rw [decide_eq_true h0, decide_eq_true h1]; rfl
  have hSta := Sta.two hp hu
  have hlen := textL_len n
  have hcs : ((⟨(textL n).toArray⟩ : ByteArray) ++ ⟨#[75, 105, 66]⟩).size ≤ 140737488351232 := by
    rw [ByteArray.size_append, show (⟨(textL n).toArray⟩ : ByteArray).size = (textL n).length from rfl, show (⟨#[75, 105, 66]⟩ : ByteArray).size = 3 from rfl]; omega
  have hcat : ¬ 9223372036854775807 < (textL n).length + 3 := by omega
  obtain ⟨hgood, hover⟩ := size_of (n := n) (u := [75, 105, 66]) (b := 1024) h0 h1 (by decide) (by decide)
  have hcd := cat_data (textL n) ⟨#[75, 105, 66]⟩
  by_cases hn : n ≤ 1073741824
  · obtain ⟨e1, e2⟩ := hgood (by omega)
    have hgt : ¬ 1073741824 < n := by omega
    rw [show ([75, 105, 66] : List UInt8) = (⟨#[75, 105, 66]⟩ : ByteArray).data.toList from rfl, ← hcd] at e1 e2
    have E1 := Lib.hid e1
    have E2 := Lib.hid e2
    have HCS := Lib.hid hcs
    clear e1 e2 hcs hcd hgood hover
    go_enter Tryd.func5, Tryd.ntmps5
    go_wp2_with fail
    refine (quant_any _ _).mono ?_
    rintro e w' ⟨rfl, rfl⟩
    go_wp2_with fail
    go_region_held3 (fun w' => w'.cell? ⟨w.heap.size, 4, none⟩ = some (.string ⟨#[75, 105, 66]⟩) ∧ w'.cell? ⟨w.heap.size + 1, 4, none⟩ = some (.int .i64 1024) ∧ Sta w w')
      (first | assumption | (refine ⟨?_, ?_, ?_⟩ <;> first | assumption | exact hSta _ _ | exact Sta.drew (hSta _ _) | exact Sta.drew (by assumption) | go_keep))
      (first
        | (go_at_call 14; refine (text_s n (by omega) (by omega) (by assumption)).mono ?_; rintro e w' ⟨rfl, hkeep⟩)
        | (go_at_call 10; refine (size_s HCS.out E1.out E2.out (by assumption)).mono ?_; rintro e w' ⟨rfl, hkeep⟩))
    obtain ⟨x1, x2, x3⟩ := hkeep
    go_wp2_with fail
    refine (head_any _ x3.pow x3.units).mono ?_
    rintro e w2 ⟨rfl, hb2⟩
    have hb := below_next x3.below hb2
    clear hb2
    go_wp2
    go_ret
    exact ⟨rfl, hb⟩
  · obtain ⟨e1, e2⟩ := hover (by omega)
    have hgt : 1073741824 < n := by omega
    rw [show ([75, 105, 66] : List UInt8) = (⟨#[75, 105, 66]⟩ : ByteArray).data.toList from rfl, ← hcd] at e1 e2
    have E1 := Lib.hid e1
    have E2 := Lib.hid e2
    have HCS := Lib.hid hcs
    clear e1 e2 hcs hcd hgood hover
    go_enter Tryd.func5, Tryd.ntmps5
    go_wp2_with fail
    refine (quant_any _ _).mono ?_
    rintro e w' ⟨rfl, rfl⟩
    go_wp2_with fail
    go_region_held3 (fun w' => w'.cell? ⟨w.heap.size, 4, none⟩ = some (.string ⟨#[75, 105, 66]⟩) ∧ w'.cell? ⟨w.heap.size + 1, 4, none⟩ = some (.int .i64 1024) ∧ Sta w w')
      (first | assumption | (refine ⟨?_, ?_, ?_⟩ <;> first | assumption | exact hSta _ _ | exact Sta.drew (hSta _ _) | exact Sta.drew (by assumption) | go_keep))
      (first
        | (go_at_call 14; refine (text_s n (by omega) (by omega) (by assumption)).mono ?_; rintro e w' ⟨rfl, hkeep⟩)
        | (go_at_call 10; refine (size_s HCS.out E1.out E2.out (by assumption)).mono ?_; rintro e w' ⟨rfl, hkeep⟩))
    obtain ⟨x1, x2, x3⟩ := hkeep
    go_wp2_with fail
    refine (head_any _ x3.pow x3.units).mono ?_
    rintro e w2 ⟨rfl, hb2⟩
    have hb := below_next x3.below hb2
    clear hb2
    go_wp2
    go_ret
    exact ⟨rfl, hb⟩


set_option maxRecDepth 100000 in
set_option maxHeartbeats 4000000 in
theorem scale5 (n c : Int) (w : World) (hp : Pow w) (hu : Units w) (h0 : 0 ≤ n) (h1 : n ≤ 1099511627776) (hk : c.tmod 8 = 5) (hc0 : 0 ≤ c) (hc1 : c ≤ 255) : Calls Tryd.prog 5 #[.int .i64 n, .int .u8 c] w fun e w' => e = .returned (.bool true) ∧ Below w.heap.size w w' := by
  have hqb : quantB n = true := by unfold quantB; rw [decide_eq_true h0, decide_eq_true h1]; rfl
  have hSta := Sta.two hp hu
  have hlen := textL_len n
  have hcs : ((⟨(textL n).toArray⟩ : ByteArray) ++ ⟨#[77, 105, 66]⟩).size ≤ 140737488351232 := by
    rw [ByteArray.size_append, show (⟨(textL n).toArray⟩ : ByteArray).size = (textL n).length from rfl, show (⟨#[77, 105, 66]⟩ : ByteArray).size = 3 from rfl]; omega
  have hcat : ¬ 9223372036854775807 < (textL n).length + 3 := by omega
  obtain ⟨hgood, hover⟩ := size_of (n := n) (u := [77, 105, 66]) (b := 1048576) h0 h1 (by decide) (by decide)
  have hcd := cat_data (textL n) ⟨#[77, 105, 66]⟩
  by_cases hn : n ≤ 1048576
  · obtain ⟨e1, e2⟩ := hgood (by omega)
    have hgt : ¬ 1048576 < n := by omega
    rw [show ([77, 105, 66] : List UInt8) = (⟨#[77, 105, 66]⟩ : ByteArray).data.toList from rfl, ← hcd] at e1 e2
    have E1 := Lib.hid e1
    have E2 := Lib.hid e2
    have HCS := Lib.hid hcs
    clear e1 e2 hcs hcd hgood hover
    go_enter Tryd.func5, Tryd.ntmps5
    go_wp2_with fail
    refine (quant_any _ _).mono ?_
    rintro e w' ⟨rfl, rfl⟩
    go_wp2_with fail
    go_region_held3 (fun w' => w'.cell? ⟨w.heap.size, 5, none⟩ = some (.string ⟨#[77, 105, 66]⟩) ∧ w'.cell? ⟨w.heap.size + 1, 5, none⟩ = some (.int .i64 1048576) ∧ Sta w w')
      (first | assumption | (refine ⟨?_, ?_, ?_⟩ <;> first | assumption | exact hSta _ _ | exact Sta.drew (hSta _ _) | exact Sta.drew (by assumption) | go_keep))
      (first
        | (go_at_call 14; refine (text_s n (by omega) (by omega) (by assumption)).mono ?_; rintro e w' ⟨rfl, hkeep⟩)
        | (go_at_call 10; refine (size_s HCS.out E1.out E2.out (by assumption)).mono ?_; rintro e w' ⟨rfl, hkeep⟩))
    obtain ⟨x1, x2, x3⟩ := hkeep
    go_wp2_with fail
    refine (head_any _ x3.pow x3.units).mono ?_
    rintro e w2 ⟨rfl, hb2⟩
    have hb := below_next x3.below hb2
    clear hb2
    go_wp2
    go_ret
    exact ⟨rfl, hb⟩
  · obtain ⟨e1, e2⟩ := hover (by omega)
    have hgt : 1048576 < n := by omega
    rw [show ([77, 105, 66] : List UInt8) = (⟨#[77, 105, 66]⟩ : ByteArray).data.toList from rfl, ← hcd] at e1 e2
    have E1 := Lib.hid e1
    have E2 := Lib.hid e2
    have HCS := Lib.hid hcs
    clear e1 e2 hcs hcd hgood hover
    go_enter Tryd.func5, Tryd.ntmps5
    go_wp2_with fail
    refine (quant_any _ _).mono ?_
    rintro e w' ⟨rfl, rfl⟩
    go_wp2_with fail
    go_region_held3 (fun w' => w'.cell? ⟨w.heap.size, 5, none⟩ = some (.string ⟨#[77, 105, 66]⟩) ∧ w'.cell? ⟨w.heap.size + 1, 5, none⟩ = some (.int .i64 1048576) ∧ Sta w w')
      (first | assumption | (refine ⟨?_, ?_, ?_⟩ <;> first | assumption | exact hSta _ _ | exact Sta.drew (hSta _ _) | exact Sta.drew (by assumption) | go_keep))
      (first
        | (go_at_call 14; refine (text_s n (by omega) (by omega) (by assumption)).mono ?_; rintro e w' ⟨rfl, hkeep⟩)
        | (go_at_call 10; refine (size_s HCS.out E1.out E2.out (by assumption)).mono ?_; rintro e w' ⟨rfl, hkeep⟩))
    obtain ⟨x1, x2, x3⟩ := hkeep
    go_wp2_with fail
    refine (head_any _ x3.pow x3.units).mono ?_
    rintro e w2 ⟨rfl, hb2⟩
    have hb := below_next x3.below hb2
    clear hb2
    go_wp2
    go_ret
    exact ⟨rfl, hb⟩


set_option maxRecDepth 100000 in
set_option maxHeartbeats 4000000 in
theorem scale6 (n c : Int) (w : World) (hp : Pow w) (hu : Units w) (h0 : 0 ≤ n) (h1 : n ≤ 1099511627776) (hk : c.tmod 8 = 6) (hc0 : 0 ≤ c) (hc1 : c ≤ 255) : Calls Tryd.prog 5 #[.int .i64 n, .int .u8 c] w fun e w' => e = .returned (.bool true) ∧ Below w.heap.size w w' := by
  have hqb : quantB n = true := by unfold quantB; rw [decide_eq_true h0, decide_eq_true h1]; rfl
  have hSta := Sta.two hp hu
  have hlen := textL_len n
  have hcs : ((⟨(textL n).toArray⟩ : ByteArray) ++ ⟨#[71, 105, 66]⟩).size ≤ 140737488351232 := by
    rw [ByteArray.size_append, show (⟨(textL n).toArray⟩ : ByteArray).size = (textL n).length from rfl, show (⟨#[71, 105, 66]⟩ : ByteArray).size = 3 from rfl]; omega
  have hcat : ¬ 9223372036854775807 < (textL n).length + 3 := by omega
  obtain ⟨hgood, hover⟩ := size_of (n := n) (u := [71, 105, 66]) (b := 1073741824) h0 h1 (by decide) (by decide)
  have hcd := cat_data (textL n) ⟨#[71, 105, 66]⟩
  by_cases hn : n ≤ 1024
  · obtain ⟨e1, e2⟩ := hgood (by omega)
    have hgt : ¬ 1024 < n := by omega
    rw [show ([71, 105, 66] : List UInt8) = (⟨#[71, 105, 66]⟩ : ByteArray).data.toList from rfl, ← hcd] at e1 e2
    have E1 := Lib.hid e1
    have E2 := Lib.hid e2
    have HCS := Lib.hid hcs
    clear e1 e2 hcs hcd hgood hover
    go_enter Tryd.func5, Tryd.ntmps5
    go_wp2_with fail
    refine (quant_any _ _).mono ?_
    rintro e w' ⟨rfl, rfl⟩
    go_wp2_with fail
    go_region_held3 (fun w' => w'.cell? ⟨w.heap.size, 6, none⟩ = some (.string ⟨#[71, 105, 66]⟩) ∧ w'.cell? ⟨w.heap.size + 1, 6, none⟩ = some (.int .i64 1073741824) ∧ Sta w w')
      (first | assumption | (refine ⟨?_, ?_, ?_⟩ <;> first | assumption | exact hSta _ _ | exact Sta.drew (hSta _ _) | exact Sta.drew (by assumption) | go_keep))
      (first
        | (go_at_call 14; refine (text_s n (by omega) (by omega) (by assumption)).mono ?_; rintro e w' ⟨rfl, hkeep⟩)
        | (go_at_call 10; refine (size_s HCS.out E1.out E2.out (by assumption)).mono ?_; rintro e w' ⟨rfl, hkeep⟩))
    obtain ⟨x1, x2, x3⟩ := hkeep
    go_wp2_with fail
    refine (head_any _ x3.pow x3.units).mono ?_
    rintro e w2 ⟨rfl, hb2⟩
    have hb := below_next x3.below hb2
    clear hb2
    go_wp2
    go_ret
    exact ⟨rfl, hb⟩
  · obtain ⟨e1, e2⟩ := hover (by omega)
    have hgt : 1024 < n := by omega
    rw [show ([71, 105, 66] : List UInt8) = (⟨#[71, 105, 66]⟩ : ByteArray).data.toList from rfl, ← hcd] at e1 e2
    have E1 := Lib.hid e1
    have E2 := Lib.hid e2
    have HCS := Lib.hid hcs
    clear e1 e2 hcs hcd hgood hover
    go_enter Tryd.func5, Tryd.ntmps5
    go_wp2_with fail
    refine (quant_any _ _).mono ?_
    rintro e w' ⟨rfl, rfl⟩
    go_wp2_with fail
    go_region_held3 (fun w' => w'.cell? ⟨w.heap.size, 6, none⟩ = some (.string ⟨#[71, 105, 66]⟩) ∧ w'.cell? ⟨w.heap.size + 1, 6, none⟩ = some (.int .i64 1073741824) ∧ Sta w w')
      (first | assumption | (refine ⟨?_, ?_, ?_⟩ <;> first | assumption | exact hSta _ _ | exact Sta.drew (hSta _ _) | exact Sta.drew (by assumption) | go_keep))
      (first
        | (go_at_call 14; refine (text_s n (by omega) (by omega) (by assumption)).mono ?_; rintro e w' ⟨rfl, hkeep⟩)
        | (go_at_call 10; refine (size_s HCS.out E1.out E2.out (by assumption)).mono ?_; rintro e w' ⟨rfl, hkeep⟩))
    obtain ⟨x1, x2, x3⟩ := hkeep
    go_wp2_with fail
    refine (head_any _ x3.pow x3.units).mono ?_
    rintro e w2 ⟨rfl, hb2⟩
    have hb := below_next x3.below hb2
    clear hb2
    go_wp2
    go_ret
    exact ⟨rfl, hb⟩


set_option maxRecDepth 100000 in
set_option maxHeartbeats 4000000 in
theorem scale7 (n c : Int) (w : World) (hp : Pow w) (hu : Units w) (h0 : 0 ≤ n) (h1 : n ≤ 1099511627776) (hk : c.tmod 8 = 7) (hc0 : 0 ≤ c) (hc1 : c ≤ 255) : Calls Tryd.prog 5 #[.int .i64 n, .int .u8 c] w fun e w' => e = .returned (.bool true) ∧ Below w.heap.size w w' := by
  have hqb : quantB n = true := by unfold quantB; rw [decide_eq_true h0, decide_eq_true h1]; rfl
  have hSta := Sta.two hp hu
  have hlen := textL_len n
  have hcs : ((⟨(textL n).toArray⟩ : ByteArray) ++ ⟨#[84, 105, 66]⟩).size ≤ 140737488351232 := by
    rw [ByteArray.size_append, show (⟨(textL n).toArray⟩ : ByteArray).size = (textL n).length from rfl, show (⟨#[84, 105, 66]⟩ : ByteArray).size = 3 from rfl]; omega
  have hcat : ¬ 9223372036854775807 < (textL n).length + 3 := by omega
  obtain ⟨hgood, hover⟩ := size_of (n := n) (u := [84, 105, 66]) (b := 1099511627776) h0 h1 (by decide) (by decide)
  have hcd := cat_data (textL n) ⟨#[84, 105, 66]⟩
  by_cases hn : n ≤ 1
  · obtain ⟨e1, e2⟩ := hgood (by omega)
    have hgt : ¬ 1 < n := by omega
    rw [show ([84, 105, 66] : List UInt8) = (⟨#[84, 105, 66]⟩ : ByteArray).data.toList from rfl, ← hcd] at e1 e2
    have E1 := Lib.hid e1
    have E2 := Lib.hid e2
    have HCS := Lib.hid hcs
    clear e1 e2 hcs hcd hgood hover
    go_enter Tryd.func5, Tryd.ntmps5
    go_wp2_with fail
    refine (quant_any _ _).mono ?_
    rintro e w' ⟨rfl, rfl⟩
    go_wp2_with fail
    go_region_held3 (fun w' => w'.cell? ⟨w.heap.size, 7, none⟩ = some (.string ⟨#[84, 105, 66]⟩) ∧ w'.cell? ⟨w.heap.size + 1, 7, none⟩ = some (.int .i64 1099511627776) ∧ Sta w w')
      (first | assumption | (refine ⟨?_, ?_, ?_⟩ <;> first | assumption | exact hSta _ _ | exact Sta.drew (hSta _ _) | exact Sta.drew (by assumption) | go_keep))
      (first
        | (go_at_call 14; refine (text_s n (by omega) (by omega) (by assumption)).mono ?_; rintro e w' ⟨rfl, hkeep⟩)
        | (go_at_call 10; refine (size_s HCS.out E1.out E2.out (by assumption)).mono ?_; rintro e w' ⟨rfl, hkeep⟩))
    obtain ⟨x1, x2, x3⟩ := hkeep
    go_wp2_with fail
    refine (head_any _ x3.pow x3.units).mono ?_
    rintro e w2 ⟨rfl, hb2⟩
    have hb := below_next x3.below hb2
    clear hb2
    go_wp2
    go_ret
    exact ⟨rfl, hb⟩
  · obtain ⟨e1, e2⟩ := hover (by omega)
    have hgt : 1 < n := by omega
    rw [show ([84, 105, 66] : List UInt8) = (⟨#[84, 105, 66]⟩ : ByteArray).data.toList from rfl, ← hcd] at e1 e2
    have E1 := Lib.hid e1
    have E2 := Lib.hid e2
    have HCS := Lib.hid hcs
    clear e1 e2 hcs hcd hgood hover
    go_enter Tryd.func5, Tryd.ntmps5
    go_wp2_with fail
    refine (quant_any _ _).mono ?_
    rintro e w' ⟨rfl, rfl⟩
    go_wp2_with fail
    go_region_held3 (fun w' => w'.cell? ⟨w.heap.size, 7, none⟩ = some (.string ⟨#[84, 105, 66]⟩) ∧ w'.cell? ⟨w.heap.size + 1, 7, none⟩ = some (.int .i64 1099511627776) ∧ Sta w w')
      (first | assumption | (refine ⟨?_, ?_, ?_⟩ <;> first | assumption | exact hSta _ _ | exact Sta.drew (hSta _ _) | exact Sta.drew (by assumption) | go_keep))
      (first
        | (go_at_call 14; refine (text_s n (by omega) (by omega) (by assumption)).mono ?_; rintro e w' ⟨rfl, hkeep⟩)
        | (go_at_call 10; refine (size_s HCS.out E1.out E2.out (by assumption)).mono ?_; rintro e w' ⟨rfl, hkeep⟩))
    obtain ⟨x1, x2, x3⟩ := hkeep
    go_wp2_with fail
    refine (head_any _ x3.pow x3.units).mono ?_
    rintro e w2 ⟨rfl, hb2⟩
    have hb := below_next x3.below hb2
    clear hb2
    go_wp2
    go_ret
    exact ⟨rfl, hb⟩

set_option maxRecDepth 100000 in
set_option maxHeartbeats 4000000 in
theorem scale_out (n c : Int) (w : World) (hc0 : 0 ≤ c) (hc1 : c ≤ 255) (hp : Pow w) (hu : Units w) (hq : ¬ (0 ≤ n ∧ n ≤ 1099511627776)) : Calls Tryd.prog 5 #[.int .i64 n, .int .u8 c] w fun e w' => e = .returned (.bool true) ∧ Below w.heap.size w w' := by
  have hqb : quantB n = false := by
    rw [Bool.eq_false_iff]; intro h; unfold quantB at h
    simp only [Bool.and_eq_true, decide_eq_true_eq] at h
    exact hq h
  clear hq
  go_enter Tryd.func5, Tryd.ntmps5
  have hSta := Sta.two hp hu
  go_wp2_with fail
  refine (quant_any _ _).mono ?_
  rintro e w' ⟨rfl, rfl⟩
  go_wp2_with fail
  refine (head_any _ (hSta _ _).pow (hSta _ _).units).mono ?_
  rintro e w2 ⟨rfl, hb2⟩
  have hb := below_next (hSta _ _).below hb2
  clear hb2
  go_wp2
  go_ret
  exact ⟨rfl, hb⟩

theorem scale_any (n c : Int) (w : World) (hc0 : 0 ≤ c) (hc1 : c ≤ 255) (hp : Pow w) (hu : Units w) : Calls Tryd.prog 5 #[.int .i64 n, .int .u8 c] w fun e w' => e = .returned (.bool true) ∧ Below w.heap.size w w' := by
  by_cases hq : 0 ≤ n ∧ n ≤ 1099511627776
  · have ht : c.tmod 8 = c % 8 := Int.tmod_eq_emod_of_nonneg hc0
    rcases (show c % 8 = 0 ∨ c % 8 = 1 ∨ c % 8 = 2 ∨ c % 8 = 3 ∨ c % 8 = 4 ∨ c % 8 = 5 ∨ c % 8 = 6 ∨ c % 8 = 7 by omega) with h | h | h | h | h | h | h | h
    · exact scale0 n c w hp hu hq.1 hq.2 (ht.trans h) hc0 hc1
    · exact scale1 n c w hp hu hq.1 hq.2 (ht.trans h) hc0 hc1
    · exact scale2 n c w hp hu hq.1 hq.2 (ht.trans h) hc0 hc1
    · exact scale3 n c w hp hu hq.1 hq.2 (ht.trans h) hc0 hc1
    · exact scale4 n c w hp hu hq.1 hq.2 (ht.trans h) hc0 hc1
    · exact scale5 n c w hp hu hq.1 hq.2 (ht.trans h) hc0 hc1
    · exact scale6 n c w hp hu hq.1 hq.2 (ht.trans h) hc0 hc1
    · exact scale7 n c w hp hu hq.1 hq.2 (ht.trans h) hc0 hc1
  · exact scale_out n c w hc0 hc1 hp hu hq
end Go.Proofs.YteamacekhfncnaaDoor

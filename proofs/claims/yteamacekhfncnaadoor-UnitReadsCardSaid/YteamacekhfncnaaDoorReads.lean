/-
  UnitReads, walked: it answers true for every string, where the units' table and the powers of ten stand; ahead of it the plain law: a number's text is its text again. Nothing else is asked.
-/
import Derived.Test.YteamacekhfncnaaDoorHead
namespace Go.Proofs.YteamacekhfncnaaDoor
open Go.RowKit
open Go.Lib (decDigits)

theorem foldl_le (l : List UInt8) : ∀ n, n ≤ l.foldl stepV n := by
  induction l with
  | nil => intro n; exact Nat.le_refl _
  | cons b r ih =>
    intro n
    refine Nat.le_trans ?_ (ih (stepV n b))
    unfold stepV; omega
theorem val_pos {l : List UInt8} (h : l.all isDig = true) (h1 : 1 ≤ l.length) (h2 : l.head? ≠ some 48) : 1 ≤ val l := by
  cases l with
  | nil => simp at h1
  | cons b r =>
    simp only [List.all_cons, Bool.and_eq_true] at h
    have hb : 48 ≤ b.toNat ∧ b.toNat ≤ 57 := by simpa [isDig] using h.1
    have hne : b.toNat ≠ 48 := fun e => h2 (by
      simp only [List.head?_cons, Option.some.injEq]
      apply UInt8.toNat_inj.1
      rw [e]; rfl)
    refine Nat.le_trans ?_ (foldl_le r (stepV 0 b))
    unfold stepV; omega

theorem dig_back {b : UInt8} (h : isDig b = true) : UInt8.ofNat (48 + (b.toNat - 48)) = b := by
  have hb : 48 ≤ b.toNat ∧ b.toNat ≤ 57 := by simpa [isDig] using h
  apply UInt8.toNat_inj.1
  rw [dig_toNat (by omega)]; omega

theorem dec_val : ∀ (n : Nat) (l : List UInt8), l.length = n → l.all isDig = true → 1 ≤ l.length → ¬ (1 < l.length ∧ l.head? = some 48) → decDigits (val l) = l := by
  intro n
  induction n with
  | zero => intro l h _ h1; omega
  | succ n ih =>
    intro l hl ha h1 h0
    rcases List.eq_nil_or_concat l with rfl | ⟨r, b, rfl⟩
    · simp at h1
    · simp only [List.concat_eq_append] at *
      rw [List.all_append, Bool.and_eq_true] at ha
      have hb1 : isDig b = true := by simpa using ha.2
      have hb : 48 ≤ b.toNat ∧ b.toNat ≤ 57 := by simpa [isDig] using hb1
      rw [val_append]
      cases r with
      | nil =>
        have e : stepV (val []) b = b.toNat - 48 := by unfold stepV val; simp
        rw [e, decDigits, dif_pos (by omega), dig_back hb1]; rfl
      | cons c r' =>
        have hr : (c :: r').head? ≠ some 48 := fun e => h0 ⟨by simp, by simpa using e⟩
        have hp := val_pos ha.1 (by simp) hr
        have hs : stepV (val (c :: r')) b = val (c :: r') * 10 + (b.toNat - 48) := rfl
        have hd : stepV (val (c :: r')) b / 10 = val (c :: r') := by rw [hs]; omega
        have hm : stepV (val (c :: r')) b % 10 = b.toNat - 48 := by rw [hs]; omega
        have hi := ih (c :: r') (by simp at hl ⊢; omega) ha.1 (by simp) (fun e => hr e.2)
        rw [decDigits, dif_neg (by rw [hs]; omega), hd, hm, hi, dig_back hb1]

theorem okN_parts {l : List UInt8} (h : okN l = true) : l.all isDig = true ∧ 1 ≤ l.length ∧ ¬ (1 < l.length ∧ l.head? = some 48) ∧ val l ≤ top := by
  unfold okN at h
  simp only [Bool.and_eq_true, decide_eq_true_eq, Bool.not_eq_true', Bool.and_eq_false_iff, decide_eq_false_iff_not] at h
  obtain ⟨⟨⟨⟨a, b⟩, c⟩, d⟩, e⟩ := h
  exact ⟨a, b, fun k => d.elim (fun x => x k.1) (fun x => x k.2), e⟩
theorem text_num {l : List UInt8} (h : okN l = true) : textL (val l) = l := by
  obtain ⟨a, b, c, d⟩ := okN_parts h
  unfold textL
  rw [if_pos ⟨by omega, by omega⟩, Int.toNat_natCast]
  exact dec_val _ l rfl a b c
theorem size_num {l : List UInt8} (h : okN l = true) : sizeV l = val l ∧ sizeE l = 0 := by
  obtain ⟨a, b, c, d⟩ := okN_parts h
  have e1 : headD l = l := by
    have := takeWhile_app (p := isDig) (d := l) (u := []) a rfl
    simpa [headD] using this.1
  have e2 : tailD l = [] := by
    have := takeWhile_app (p := isDig) (d := l) (u := []) a rfl
    simpa [tailD] using this.2
  have hk : okAt (headD l) (tailD l) = true := by
    rw [e1, e2]
    unfold okAt
    rw [h]
    have e1 : byU [] = 1 := rfl
    rw [e1]
    unfold top at d
    simp; omega
  obtain ⟨h1, h2⟩ := size_yes hk
  rw [e1, e2, show byU [] = 1 from rfl, Int.mul_one] at h1
  exact ⟨h1, h2⟩

theorem text_c (n : Int) (s : ByteArray) (w : World) (h0 : -9223372036854775808 ≤ n) (h1 : n ≤ 9223372036854775807) (hp : Pow w) (ht : textL n = s.data.toList) : Calls Tryd.prog 14 #[.int .i64 n] w fun e w' => e = .returned (.string s) ∧ Below w.heap.size w w' := by
  have := text_any n w h0 h1 hp
  rw [ht] at this
  exact this

theorem number_c (s : ByteArray) (w : World) {a b : Int} (hs : s.size ≤ 140737488351232) (ha : numV s.data.toList = a) (hb : numE s.data.toList = b) : Calls Tryd.prog 8 #[.string s] w fun e w' => e = .returned (.tuple #[.int .i64 a, .int .i64 b]) ∧ Below w.heap.size w w' := by
  subst ha hb
  exact number_any s w hs
theorem rsize_c (s : ByteArray) (w : World) {a b : Int} (hs : s.size ≤ 140737488351232) (ha : sizeV s.data.toList = a) (hb : sizeE s.data.toList = b) : Calls Tryd.prog 11 #[.string s] w fun e w' => e = .returned (.tuple #[.int .i64 a, .int .i64 b]) ∧ Below w.heap.size w w' := by
  subst ha hb
  exact rsize_any s w hs
theorem rname_c (s : ByteArray) (w : World) {b : Bool} (hs : s.size ≤ 140737488351232) (hb : nameB s.data.toList = b) : Calls Tryd.prog 13 #[.string s] w fun e w' => e = .returned (.bool b) ∧ w = w' := by
  subst hb
  exact rname_any s w hs

set_option maxRecDepth 100000 in
set_option maxHeartbeats 4000000 in
theorem reads_bad (s : ByteArray) (w : World) (hs : s.size ≤ 200) (hp : Pow w) (hu : Units w) (hk : okN s.data.toList = false) : Calls Tryd.prog 3 #[.string s] w fun e w' => e = .returned (.bool true) ∧ Below w.heap.size w w' := by
  obtain ⟨n1, n2⟩ := num_no hk
  obtain ⟨sv, hsv⟩ : ∃ x, sizeV s.data.toList = x := ⟨_, rfl⟩
  obtain ⟨se, hse⟩ : ∃ x, sizeE s.data.toList = x := ⟨_, rfl⟩
  obtain ⟨nb, hnb⟩ : ∃ x, nameB s.data.toList = x := ⟨_, rfl⟩
  have N1 := Lib.hid n1
  have N2 := Lib.hid n2
  have SV := Lib.hid hsv
  have SE := Lib.hid hse
  have NB := Lib.hid hnb
  clear n1 n2 hsv hse hnb hk
  have hs' : s.size ≤ 140737488351232 := by omega
  go_enter Tryd.func3, Tryd.ntmps3
  go_wp2_with fail
  refine (number_c s _ hs' N1.out N2.out).mono ?_
  rintro e w1 ⟨rfl, hb1⟩
  have hp1 := hp.below hb1
  have hu1 := hu.below hb1
  clear hp hu
  go_wp2_with fail
  refine (rnum_l hs' rfl N1.out N2.out).mono ?_
  rintro e w' ⟨rfl, rfl⟩
  go_wp2_with fail
  refine (size_c s _ hs' hu1 SV.out SE.out).mono ?_
  rintro e w2 ⟨rfl, hb2, hu2⟩
  have hp2 := hp1.below hb2
  have hc2 := below_next hb1 hb2
  clear hp1 hu1 hb1 hb2
  go_wp2_with fail
  refine (rsize_c s _ hs' SV.out SE.out).mono ?_
  rintro e w3 ⟨rfl, hb3⟩
  have hp3 := hp2.below hb3
  have hu3 := hu2.below hb3
  have hc3 := below_next hc2 hb3
  clear hp2 hu2 hc2 hb3
  go_wp2_with fail
  refine (name_c s _ hs' NB.out).mono ?_
  rintro e w4 ⟨rfl, hb4⟩
  have hp4 := hp3.below hb4
  have hu4 := hu3.below hb4
  have hc4 := below_next hc3 hb4
  clear hp3 hu3 hc3 hb4
  go_wp2_with fail
  refine (rname_c s _ hs' NB.out).mono ?_
  rintro e w' ⟨rfl, rfl⟩
  go_wp2_with fail
  refine (head_any _ hp4 hu4).mono ?_
  rintro e w5 ⟨rfl, hb5⟩
  have hc5 := below_next hc4 hb5
  clear hc4 hb5
  go_wp2
  go_ret
  exact ⟨rfl, hc5⟩

set_option maxRecDepth 100000 in
set_option maxHeartbeats 4000000 in
theorem reads_good (s : ByteArray) (w : World) (hs : s.size ≤ 200) (hp : Pow w) (hu : Units w) (hk : okN s.data.toList = true) : Calls Tryd.prog 3 #[.string s] w fun e w' => e = .returned (.bool true) ∧ Below w.heap.size w w' := by
  obtain ⟨n1, n2⟩ := num_yes hk
  obtain ⟨hsv, hse⟩ := size_num hk
  have htx := text_num hk
  have hbd : val s.data.toList ≤ 1099511627776 := by have := (okN_parts hk).2.2.2; unfold top at this; exact this
  generalize val s.data.toList = v at *
  obtain ⟨nb, hnb⟩ : ∃ x, nameB s.data.toList = x := ⟨_, rfl⟩
  have N1 := Lib.hid n1
  have N2 := Lib.hid n2
  have SV := Lib.hid hsv
  have SE := Lib.hid hse
  have NB := Lib.hid hnb
  have TX := Lib.hid htx
  clear n1 n2 hsv hse hnb hk htx
  have hs' : s.size ≤ 140737488351232 := by omega
  go_enter Tryd.func3, Tryd.ntmps3
  go_wp2_with fail
  refine (number_c s _ hs' N1.out N2.out).mono ?_
  rintro e w1 ⟨rfl, hb1⟩
  have hp1 := hp.below hb1
  have hu1 := hu.below hb1
  clear hp hu
  go_wp2_with fail
  refine (rnum_l hs' rfl N1.out N2.out).mono ?_
  rintro e w' ⟨rfl, rfl⟩
  go_wp2_with fail
  refine (size_c s _ hs' hu1 SV.out SE.out).mono ?_
  rintro e w2 ⟨rfl, hb2, hu2⟩
  have hp2 := hp1.below hb2
  have hc2 := below_next hb1 hb2
  clear hp1 hu1 hb1 hb2
  go_wp2_with fail
  refine (rsize_c s _ hs' SV.out SE.out).mono ?_
  rintro e w3 ⟨rfl, hb3⟩
  have hp3 := hp2.below hb3
  have hu3 := hu2.below hb3
  have hc3 := below_next hc2 hb3
  clear hp2 hu2 hc2 hb3
  go_wp2_with fail
  refine (name_c s _ hs' NB.out).mono ?_
  rintro e w4 ⟨rfl, hb4⟩
  have hp4 := hp3.below hb4
  have hu4 := hu3.below hb4
  have hc4 := below_next hc3 hb4
  clear hp3 hu3 hc3 hb4
  go_wp2_with fail
  refine (rname_c s _ hs' NB.out).mono ?_
  rintro e w' ⟨rfl, rfl⟩
  go_wp2_with fail
  refine (text_c v s _ (by omega) (by omega) hp4 TX.out).mono ?_
  rintro e w5 ⟨rfl, hb5⟩
  have hp5 := hp4.below hb5
  have hu5 := hu4.below hb5
  have hc5 := below_next hc4 hb5
  clear hp4 hu4 hc4 hb5
  go_wp2_with fail
  refine (head_any _ hp5 hu5).mono ?_
  rintro e w6 ⟨rfl, hb6⟩
  have hc6 := below_next hc5 hb6
  clear hc5 hb6
  go_wp2
  go_ret
  exact ⟨rfl, hc6⟩

set_option maxRecDepth 100000 in
set_option maxHeartbeats 4000000 in
theorem reads_any (s : ByteArray) (w : World) (hp : Pow w) (hu : Units w) : Calls Tryd.prog 3 #[.string s] w fun e w' => e = .returned (.bool true) ∧ Below w.heap.size w w' := by
  by_cases h2 : 200 < s.size
  · go_enter Tryd.func3, Tryd.ntmps3
    go_wp2_with fail
    refine (head_any _ hp hu).mono ?_
    rintro e w1 ⟨rfl, hb1⟩
    go_wp2
    go_ret
    exact ⟨rfl, hb1⟩
  · cases hk : okN s.data.toList with
    | false => exact reads_bad s w (by omega) hp hu hk
    | true => exact reads_good s w (by omega) hp hu hk
end Go.Proofs.YteamacekhfncnaaDoor

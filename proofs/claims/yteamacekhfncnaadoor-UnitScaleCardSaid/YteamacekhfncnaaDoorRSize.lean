/-
  The reference's Size: it answers what the plain functions say, for every string. Condition: the string is no longer than a Go string can be.
-/
import Derived.Test.YteamacekhfncnaaDoorBy
namespace Go.Proofs.YteamacekhfncnaaDoor
open Go.RowKit

theorem rnum_l {t : ByteArray} {w : World} {D : List UInt8} {a b : Int} (hs : t.size ≤ 140737488351232) (ht : t.data.toList = D) (ha : numV D = a) (hb : numE D = b) : Calls Tryd.prog 9 #[.string t] w fun e w' => e = .returned (.tuple #[.int .i64 a, .int .i64 b]) ∧ w = w' := by
  subst ht ha hb
  exact rnumber_any t w hs
theorem by_l {t : ByteArray} {w : World} {D : List UInt8} {a : Int} (ht : t.data.toList = D) (ha : byU D = a) : Calls Tryd.prog 24 #[.string t] w fun e w' => e = .returned (.int .i64 a) ∧ Below w.heap.size w w' := by
  subst ht ha
  exact by_any t w

theorem head_take {l : List UInt8} {k : Nat} (h : (l.take k).all isDig = true) (hn : (l.drop k).head?.all (fun b => !isDig b) = true) : headD l = l.take k ∧ tailD l = l.drop k := by
  have hh : ∀ {d u : List UInt8}, d.all isDig = true → u.head?.all (fun b => !isDig b) = true → (d ++ u).takeWhile isDig = d ∧ (d ++ u).dropWhile isDig = u := by
    intro d
    induction d with
    | nil =>
      intro u _ hu
      cases u with
      | nil => exact ⟨rfl, rfl⟩
      | cons b r =>
        have : isDig b = false := by simpa using hu
        simp [this]
    | cons b d ih =>
      intro u hd hu
      simp only [List.all_cons, Bool.and_eq_true] at hd
      have := ih hd.2 hu
      simp [hd.1, this.1, this.2]
  have := hh h hn
  rw [List.take_append_drop] at this
  exact this

/-- What the three numbers answer: the number's, the unit's, the bound. -/
inductive Out (D u : List UInt8) (V E : Int) : Prop
  | bad (h : okN D = false) (h1 : V = 0) (h2 : E = 130)
  | none (h : okN D = true) (hz : byU u = 0) (h1 : V = 0) (h2 : E = 130)
  | over (h : okN D = true) (hz : 1 ≤ byU u ∧ byU u ≤ 1099511627776) (hb : (1099511627776 : Int).tdiv (byU u) < val D) (hq : 0 ≤ (1099511627776 : Int).tdiv (byU u) ∧ (1099511627776 : Int).tdiv (byU u) ≤ 1099511627776) (h1 : V = 0) (h2 : E = 130)
  | good (h : okN D = true) (hz : 1 ≤ byU u ∧ byU u ≤ 1099511627776) (hb : (val D : Int) ≤ (1099511627776 : Int).tdiv (byU u)) (hm : 0 ≤ (val D : Int) * byU u ∧ (val D : Int) * byU u ≤ 1099511627776) (hq : 0 ≤ (1099511627776 : Int).tdiv (byU u) ∧ (1099511627776 : Int).tdiv (byU u) ≤ 1099511627776) (h1 : V = val D * byU u) (h2 : E = 0)

theorem out_is (l : List UInt8) : Out (headD l) (tailD l) (sizeV l) (sizeE l) := by
  cases h : okN (headD l) with
  | false =>
    obtain ⟨e1, e2⟩ := size_no (l := l) (by unfold okAt; rw [h]; rfl)
    exact .bad h e1 e2
  | true =>
    by_cases hz : byU (tailD l) = 0
    · obtain ⟨e1, e2⟩ := size_no (l := l) (by unfold okAt; rw [hz]; simp)
      exact .none h hz e1 e2
    · have hb := byU_bd hz
      have hdiv : (1099511627776 : Int).tdiv (byU (tailD l)) = 1099511627776 / byU (tailD l) := Int.tdiv_eq_ediv_of_nonneg (by omega)
      have hql : 0 ≤ (1099511627776 : Int).tdiv (byU (tailD l)) ∧ (1099511627776 : Int).tdiv (byU (tailD l)) ≤ 1099511627776 := by rw [hdiv]; exact ⟨Int.ediv_nonneg (by omega) (by omega), Int.ediv_le_self _ (by omega)⟩
      by_cases hv : (val (headD l) : Int) ≤ 1099511627776 / byU (tailD l)
      · obtain ⟨e1, e2⟩ := size_yes (l := l) (by unfold okAt; rw [h, decide_eq_true hv]; simpa using hz)
        have hmul : (1099511627776 / byU (tailD l)) * byU (tailD l) ≤ 1099511627776 := Int.ediv_mul_le _ hz
        exact .good h hb (by rw [hdiv]; exact hv) ⟨Int.mul_nonneg (by omega) (by omega), Int.le_trans (Int.mul_le_mul_of_nonneg_right hv (by omega)) hmul⟩ hql e1 e2
      · obtain ⟨e1, e2⟩ := size_no (l := l) (by unfold okAt; rw [decide_eq_false hv]; simp)
        exact .over h hb (by rw [hdiv]; omega) hql e1 e2

set_option maxRecDepth 100000 in
set_option maxHeartbeats 4000000 in
theorem rsize_any (s : ByteArray) (w : World) (hs : s.size ≤ 140737488351232) : Calls Tryd.prog 11 #[.string s] w fun e w' => e = .returned (.tuple #[.int .i64 (sizeV s.data.toList), .int .i64 (sizeE s.data.toList)]) ∧ Below w.heap.size w w' := by
  have HO := Lib.hid (out_is s.data.toList)
  generalize sizeV s.data.toList = V at *
  generalize sizeE s.data.toList = E at *
  go_enter Tryd.func11, Tryd.ntmps11
  go_wp2
  go_loop [4] (fun i => ∃ k : Nat, k ≤ s.size ∧ i = .int .i64 k ∧ (s.data.toList.take k).all isDig = true) (fun i => s.size - (intOf i).toNat)
  case atStart => exact ⟨0, Nat.zero_le _, rfl, rfl⟩
  case round =>
    obtain ⟨k, hk, rfl, hall⟩ := hrel
    have Hall := Lib.hid hall
    clear hall
    by_cases hlt : k < s.size
    · have hdi := digI_is s[k]
      cases hd : isDig s[k] with
      | false =>
        rw [hd] at hdi
        obtain ⟨p1, p2⟩ := head_take (l := s.data.toList) (k := k) Hall.out (by
          have : s.data.toList.drop k = s[k] :: s.data.toList.drop (k + 1) := by
            rw [List.drop_eq_getElem_cons (by simpa using hlt)]; rfl
          rw [this]; simp [hd])
        have x1 : (s.extract 0 k).data.toList = headD s.data.toList := by rw [p1]; simp
        have x2 : (s.extract k s.size).data.toList = tailD s.data.toList := by rw [p2, Lib.extract_to_end]
        have x3 : (s.extract 0 k).size ≤ 140737488351232 := by
          have h3 : (s.extract 0 k).data.toList.length = (s.extract 0 k).size := by simp
          rw [← h3, x1, p1]; simp; omega
        generalize headD s.data.toList = D at *
        generalize tailD s.data.toList = u at *
        have X1 := Lib.hid x1
        have X2 := Lib.hid x2
        have X3 := Lib.hid x3
        clear hd p1 p2 x1 x2 x3
        cases HO.out with
        | bad h h1 h2 =>
          subst h1 h2
          obtain ⟨n1, n2⟩ := num_no h
          generalize n3 : byU u = b at *
          clear h HO
          go_wp2_with fail
          refine (digit_any _ _).mono ?_
          rintro e w' ⟨rfl, rfl⟩
          go_wp2_with fail
          refine (rnum_l X3.out X1.out n1 n2).mono ?_
          rintro e w' ⟨rfl, rfl⟩
          go_wp2_with fail
          refine (by_l X2.out n3).mono ?_
          rintro e w' ⟨rfl, hb⟩
          go_wp2_with fail
          go_ret2
          exact ⟨rfl, hb⟩
        | none h hz h1 h2 =>
          subst h1 h2
          obtain ⟨n1, n2⟩ := num_yes h
          clear h HO
          generalize n3 : byU u = b at *
          subst hz
          go_wp2_with fail
          refine (digit_any _ _).mono ?_
          rintro e w' ⟨rfl, rfl⟩
          go_wp2_with fail
          refine (rnum_l X3.out X1.out n1 n2).mono ?_
          rintro e w' ⟨rfl, rfl⟩
          go_wp2_with fail
          refine (by_l X2.out n3).mono ?_
          rintro e w' ⟨rfl, hb⟩
          go_wp2_with fail
          go_ret2
          exact ⟨rfl, hb⟩
        | over h hz hq hql h1 h2 =>
          obtain ⟨ql, qu⟩ := hql
          subst h1 h2
          obtain ⟨n1, n2⟩ := num_yes h
          clear h HO
          generalize n3 : byU u = b at *
          generalize (val D : Int) = v at *
          obtain ⟨y1, y2⟩ := hz
          have hz0 : (b == 0) = false := by rw [beq_eq_false_iff_ne]; omega
          go_wp2_with fail
          refine (digit_any _ _).mono ?_
          rintro e w' ⟨rfl, rfl⟩
          go_wp2_with fail
          refine (rnum_l X3.out X1.out n1 n2).mono ?_
          rintro e w' ⟨rfl, rfl⟩
          go_wp2_with fail
          refine (by_l X2.out n3).mono ?_
          rintro e w' ⟨rfl, hb⟩
          go_wp2_with fail
          go_ret2
          exact ⟨rfl, hb⟩
        | good h hz hq hm hql h1 h2 =>
          obtain ⟨ql, qu⟩ := hql
          subst h2
          obtain ⟨n1, n2⟩ := num_yes h
          clear h HO
          generalize n3 : byU u = b at *
          generalize (val D : Int) = v at *
          subst h1
          obtain ⟨y1, y2⟩ := hz
          obtain ⟨m1, m2⟩ := hm
          have hq2 : ¬ (1099511627776 : Int).tdiv b < v := by omega
          have hz0 : (b == 0) = false := by rw [beq_eq_false_iff_ne]; omega
          clear hq
          go_wp2_with fail
          refine (digit_any _ _).mono ?_
          rintro e w' ⟨rfl, rfl⟩
          go_wp2_with fail
          refine (rnum_l X3.out X1.out n1 n2).mono ?_
          rintro e w' ⟨rfl, rfl⟩
          go_wp2_with fail
          refine (by_l X2.out n3).mono ?_
          rintro e w' ⟨rfl, hb⟩
          go_wp2_with fail
          go_ret2
          exact ⟨rfl, hb⟩
      | true =>
        rw [hd] at hdi
        have hal : (s.data.toList.take (k + 1)).all isDig = true := by
          rw [take_snoc s k hlt, List.all_append, Hall.out]; simp [hd]
        have HA := Lib.hid hal
        clear hal hd
        go_wp2_with fail
        refine (digit_any _ _).mono ?_
        rintro e w' ⟨rfl, rfl⟩
        go_wp2
        go_round
        case rel => exact ⟨k + 1, by omega, by go_num, HA.out⟩
        case measure => simp [intOf]; omega
    · obtain rfl : k = s.size := by omega
      have hlen : s.data.toList.take s.size = s.data.toList := List.take_of_length_le (by simp)
      have hlen2 : s.data.toList.drop s.size = [] := List.drop_eq_nil_of_le (by simp)
      obtain ⟨p1, p2⟩ := head_take (l := s.data.toList) (k := s.size) Hall.out (by rw [hlen2]; rfl)
      have x1 : s.data.toList = headD s.data.toList := by rw [p1, hlen]
      have x2 : ByteArray.empty.data.toList = tailD s.data.toList := by rw [p2, hlen2]; rfl
      generalize headD s.data.toList = D at *
      generalize tailD s.data.toList = u at *
      have X1 := Lib.hid x1
      have X2 := Lib.hid x2
      have X3 := Lib.hid hs
      clear p1 p2 x1 x2 hlen hlen2
      cases HO.out with
      | bad h h1 h2 =>
        subst h1 h2
        obtain ⟨n1, n2⟩ := num_no h
        generalize n3 : byU u = b at *
        clear h HO
        go_wp2_with fail
        refine (rnum_l X3.out X1.out n1 n2).mono ?_
        rintro e w' ⟨rfl, rfl⟩
        go_wp2_with fail
        refine (by_l X2.out n3).mono ?_
        rintro e w' ⟨rfl, hb⟩
        go_wp2_with fail
        go_ret2
        exact ⟨rfl, hb⟩
      | none h hz h1 h2 =>
        subst h1 h2
        obtain ⟨n1, n2⟩ := num_yes h
        clear h HO
        generalize n3 : byU u = b at *
        subst hz
        go_wp2_with fail
        refine (rnum_l X3.out X1.out n1 n2).mono ?_
        rintro e w' ⟨rfl, rfl⟩
        go_wp2_with fail
        refine (by_l X2.out n3).mono ?_
        rintro e w' ⟨rfl, hb⟩
        go_wp2_with fail
        go_ret2
        exact ⟨rfl, hb⟩
      | over h hz hq hql h1 h2 =>
        obtain ⟨ql, qu⟩ := hql
        subst h1 h2
        obtain ⟨n1, n2⟩ := num_yes h
        clear h HO
        generalize n3 : byU u = b at *
        generalize (val D : Int) = v at *
        obtain ⟨y1, y2⟩ := hz
        have hz0 : (b == 0) = false := by rw [beq_eq_false_iff_ne]; omega
        go_wp2_with fail
        refine (rnum_l X3.out X1.out n1 n2).mono ?_
        rintro e w' ⟨rfl, rfl⟩
        go_wp2_with fail
        refine (by_l X2.out n3).mono ?_
        rintro e w' ⟨rfl, hb⟩
        go_wp2_with fail
        go_ret2
        exact ⟨rfl, hb⟩
      | good h hz hq hm hql h1 h2 =>
        obtain ⟨ql, qu⟩ := hql
        subst h2
        obtain ⟨n1, n2⟩ := num_yes h
        clear h HO
        generalize n3 : byU u = b at *
        generalize (val D : Int) = v at *
        subst h1
        obtain ⟨y1, y2⟩ := hz
        obtain ⟨m1, m2⟩ := hm
        have hq2 : ¬ (1099511627776 : Int).tdiv b < v := by omega
        have hz0 : (b == 0) = false := by rw [beq_eq_false_iff_ne]; omega
        clear hq
        go_wp2_with fail
        refine (rnum_l X3.out X1.out n1 n2).mono ?_
        rintro e w' ⟨rfl, rfl⟩
        go_wp2_with fail
        refine (by_l X2.out n3).mono ?_
        rintro e w' ⟨rfl, hb⟩
        go_wp2_with fail
        go_ret2
        exact ⟨rfl, hb⟩
end Go.Proofs.YteamacekhfncnaaDoor

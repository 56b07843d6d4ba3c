/-
  unit.Name: it answers what the plain function says, for every string. Condition: the string is no longer than a Go string can be.
-/
import Derived.Test.YteamacekhfncnaaDoorRSize
import Derived.Laws.RangeAny
namespace Go.Proofs.YteamacekhfncnaaDoor
open Go.RowKit

def letB (b : Int) : Bool := decide (97 ≤ b) && decide (b ≤ 122) || decide (65 ≤ b) && decide (b ≤ 90) || decide (48 ≤ b) && decide (b ≤ 57) || b == 95
def chOk (i : Nat) (b : Int) : Bool := letB b || (decide (0 < i) && (b == 45 || b == 46))
def chkL : Nat → List UInt8 → Bool
  | _, [] => true
  | i, b :: r => chOk i b.toNat && chkL (i + 1) r
def nameB (l : List UInt8) : Bool := chkL 0 l && (decide (1 ≤ l.length) && decide (l.length ≤ 32))

theorem ret_bool {a b : Bool} (h : a = b) : Ending.returned (.bool a) = .returned (.bool b) := by rw [h]
theorem chOk_iff (i : Nat) (b : Int) : chOk i b = true ↔ (97 ≤ b ∧ b ≤ 122) ∨ (65 ≤ b ∧ b ≤ 90) ∨ (48 ≤ b ∧ b ≤ 57) ∨ b = 95 ∨ (0 < i ∧ (b = 45 ∨ b = 46)) := by
  unfold chOk letB
  simp only [Bool.or_eq_true, Bool.and_eq_true, decide_eq_true_eq, beq_iff_eq]
  omega
theorem chOk_no {i : Nat} {b : Int} (h : ¬ ((97 ≤ b ∧ b ≤ 122) ∨ (65 ≤ b ∧ b ≤ 90) ∨ (48 ≤ b ∧ b ≤ 57) ∨ b = 95 ∨ (0 < i ∧ (b = 45 ∨ b = 46)))) : chOk i b = false := by
  rw [Bool.eq_false_iff]; exact fun k => h ((chOk_iff i b).1 k)

theorem chk_at (s : ByteArray) (pos : Nat) (h : pos < s.size) : chkL pos (s.data.toList.drop pos) = (chOk pos s[pos].toNat && chkL (pos + 1) (s.data.toList.drop (pos + 1))) := by
  rw [List.drop_eq_getElem_cons (by simpa using h)]; rfl

theorem next_is (s : ByteArray) (w : World) (pos : Nat) (h : pos < s.size) : ∃ (c : Int) (d : Nat), 1 ≤ d ∧ 0 ≤ c ∧ chOk pos s[pos].toNat = chOk pos c ∧ (chOk pos c = true → d = 1) ∧
    ∀ ty, (Instr.next (.pointer (some ⟨w.heap.size, 0, none⟩)) true ty).run Tryd.prog (w.iter s pos) = .ok (.tuple #[.bool true, .int .i64 pos, .int .i32 c]) (w.iter s (pos + d)) := by
  by_cases ha : s[pos].toNat < 128
  · exact ⟨s[pos].toNat, 1, Nat.le_refl _, by omega, rfl, fun _ => rfl, fun ty => run_next_ascii w s pos ty h ha⟩
  · obtain ⟨h1, h2⟩ := decode_high s pos h (by omega)
    have hn : ∀ c : Nat, 128 ≤ c → chOk pos c = false := fun c hc => chOk_no (by omega)
    refine ⟨(Utf8.decode s pos).1, (Utf8.decode s pos).2, h2, by omega, ?_, ?_, fun ty => run_next_any w s pos ty h⟩
    · rw [hn _ (by omega), hn _ h1]
    · intro k; rw [hn _ h1] at k; cases k

set_option maxRecDepth 100000 in
set_option maxHeartbeats 4000000 in
theorem name_any (s : ByteArray) (w : World) (hs : s.size ≤ 140737488351232) : Calls Tryd.prog 12 #[.string s] w fun e w' => e = .returned (.bool (nameB s.data.toList)) ∧ Below w.heap.size w w' := by
  have HB : ∀ pos, Hid (Below w.heap.size w (w.iter s pos)) := fun pos => Lib.hid ((Below.refl _ _).alloc (Nat.le_refl _) _)
  have hno : chkL 0 s.data.toList = false → nameB s.data.toList = false := fun h => by unfold nameB; rw [h]; rfl
  have HNO := Lib.hid hno
  clear hno
  go_enter Tryd.func12, Tryd.ntmps12
  go_wp2
  go_loopw [] (fun w' => ∃ (pos : Nat), w' = w.iter s pos ∧ pos ≤ s.size ∧ chkL pos (s.data.toList.drop pos) = chkL 0 s.data.toList) (fun w' => s.size - w'.iterPos w.heap.size)
  case atStart => exact ⟨0, rfl, Nat.zero_le _, rfl⟩
  case round =>
    obtain ⟨pos, rfl, hle, hc⟩ := hrel
    have HC := Lib.hid hc
    clear hc
    by_cases hp : pos < s.size
    · have hk := chk_at s pos hp
      rw [HC.out] at hk
      obtain ⟨c, d, hd, hc0, he, hone, hnx⟩ := next_is s w pos hp
      rw [he] at hk
      have HK := Lib.hid hk
      have HONE := Lib.hid hone
      clear hk hone he
      have hgo : chOk pos c = true → d = 1 ∧ chkL (pos + 1) (s.data.toList.drop (pos + 1)) = chkL 0 s.data.toList := fun h => ⟨HONE.out h, by have := HK.out; rw [h] at this; exact this.symm⟩
      have hst : chOk pos c = false → nameB s.data.toList = false := fun h => HNO.out (by rw [HK.out, h]; rfl)
      have HGO := Lib.hid hgo
      have HST := Lib.hid hst
      clear hgo hst HK HONE HC HNO
      by_cases hok : (97 ≤ c ∧ c ≤ 122) ∨ (65 ≤ c ∧ c ≤ 90) ∨ (48 ≤ c ∧ c ≤ 57) ∨ c = 95 ∨ (0 < pos ∧ (c = 45 ∨ c = 46))
      · obtain ⟨rfl, hn⟩ := HGO.out ((chOk_iff pos c).2 hok)
        have HN := Lib.hid hn
        clear hn HGO HST
        rcases hok with h | h | h | h | ⟨h0, h | h⟩
        all_goals try subst h
        all_goals try (have hp0 : ((pos : Int) == 0) = false := by rw [beq_eq_false_iff_ne]; omega)
        all_goals try (
          first | have a1 : 97 ≤ c := by omega | have a1 : ¬ 97 ≤ c := by omega
          first | have a2 : c ≤ 122 := by omega | have a2 : ¬ c ≤ 122 := by omega
          first | have a3 : 65 ≤ c := by omega | have a3 : ¬ 65 ≤ c := by omega
          first | have a4 : c ≤ 90 := by omega | have a4 : ¬ c ≤ 90 := by omega
          first | have a5 : 48 ≤ c := by omega | have a5 : ¬ 48 ≤ c := by omega
          first | have a6 : c ≤ 57 := by omega | have a6 : ¬ c ≤ 57 := by omega
          first | have a7 : (c == 95) = false := by { rw [beq_eq_false_iff_ne]; omega } | skip
          first | have a8 : (c != 45) = true := by { rw [bne_iff_ne]; omega } | skip
          first | have a9 : (c != 46) = true := by { rw [bne_iff_ne]; omega } | skip)
        all_goals
          go_wp2
          refine ⟨⟨pos + 1, rfl, by omega, HN.out⟩, ?_⟩
          simp
          omega
      · have hn := HST.out (chOk_no hok)
        have HNM := Lib.hid hn
        clear hn HGO HST
        rcases (show (c < 45 ∨ c = 47 ∨ (57 < c ∧ c < 65) ∨ (90 < c ∧ c < 95) ∨ c = 96 ∨ (122 < c)) ∨ (pos = 0 ∧ c = 45) ∨ (pos = 0 ∧ c = 46) by omega) with h | ⟨rfl, rfl⟩ | ⟨rfl, rfl⟩
        · by_cases hp0 : pos = 0
          · subst hp0
            rcases h with h | rfl | h | h | rfl | h
            all_goals try (
              first | have a1 : 97 ≤ c := by omega | have a1 : ¬ 97 ≤ c := by omega
              first | have a2 : c ≤ 122 := by omega | have a2 : ¬ c ≤ 122 := by omega
              first | have a3 : 65 ≤ c := by omega | have a3 : ¬ 65 ≤ c := by omega
              first | have a4 : c ≤ 90 := by omega | have a4 : ¬ c ≤ 90 := by omega
              first | have a5 : 48 ≤ c := by omega | have a5 : ¬ 48 ≤ c := by omega
              first | have a6 : c ≤ 57 := by omega | have a6 : ¬ c ≤ 57 := by omega
              first | have a7 : (c == 95) = false := by { rw [beq_eq_false_iff_ne]; omega } | skip
              first | have a8 : (c != 45) = true := by { rw [bne_iff_ne]; omega } | skip
              first | have a9 : (c != 46) = true := by { rw [bne_iff_ne]; omega } | skip)
            all_goals
              go_wp2
              go_ret
              exact ⟨ret_bool HNM.out.symm, (HB _).out⟩
          · have hp0' : ((pos : Int) == 0) = false := by rw [beq_eq_false_iff_ne]; omega
            rcases h with h | rfl | h | h | rfl | h
            all_goals try (
              first | have a1 : 97 ≤ c := by omega | have a1 : ¬ 97 ≤ c := by omega
              first | have a2 : c ≤ 122 := by omega | have a2 : ¬ c ≤ 122 := by omega
              first | have a3 : 65 ≤ c := by omega | have a3 : ¬ 65 ≤ c := by omega
              first | have a4 : c ≤ 90 := by omega | have a4 : ¬ c ≤ 90 := by omega
              first | have a5 : 48 ≤ c := by omega | have a5 : ¬ 48 ≤ c := by omega
              first | have a6 : c ≤ 57 := by omega | have a6 : ¬ c ≤ 57 := by omega
              first | have a7 : (c == 95) = false := by { rw [beq_eq_false_iff_ne]; omega } | skip
              first | have a8 : (c != 45) = true := by { rw [bne_iff_ne]; omega } | skip
              first | have a9 : (c != 46) = true := by { rw [bne_iff_ne]; omega } | skip)
            all_goals
              go_wp2
              go_ret
              exact ⟨ret_bool HNM.out.symm, (HB _).out⟩
        all_goals
          go_wp2
          go_ret
          exact ⟨ret_bool HNM.out.symm, (HB _).out⟩
    · obtain rfl : pos = s.size := by omega
      have hlen : s.data.toList.drop s.size = [] := List.drop_eq_nil_of_le (by simp)
      have hc0 := HC.out
      rw [hlen] at hc0
      have hnm : nameB s.data.toList = (decide (1 ≤ s.size) && decide (s.size ≤ 32)) := by
        have h3 : s.data.toList.length = s.size := by simp
        unfold nameB
        rw [← hc0, h3]; rfl
      have HNM := Lib.hid hnm
      have hnx : ∀ ty, (Instr.next (.pointer (some ⟨w.heap.size, 0, none⟩)) true ty).run Tryd.prog (w.iter s s.size) = _ := fun ty => run_next_end w s s.size ty hp
      clear hc0 hlen hnm HC HNO hp
      by_cases h1 : 1 ≤ s.size
      · have h1' : (1 : Int) ≤ (s.size : Int) := by omega
        have h1'' : ¬ (s.size : Int) < 1 := by omega
        by_cases h2 : s.size ≤ 32
        · have h2' : (s.size : Int) ≤ 32 := by omega
          go_wp2
          go_ret
          exact ⟨ret_bool (by rw [HNM.out]; first | (rw [decide_eq_true h1, decide_eq_true h2]; done) | (rw [decide_eq_true h1, decide_eq_false h2]; done) | (rw [decide_eq_true h1, decide_eq_true h2]; rfl) | (rw [decide_eq_true h1, decide_eq_false h2]; rfl) | (rw [decide_eq_true h1, Bool.true_and]; simp)), (HB _).out⟩
        · have h2' : ¬ (s.size : Int) ≤ 32 := by omega
          go_wp2
          go_ret
          exact ⟨ret_bool (by rw [HNM.out]; first | (rw [decide_eq_true h1, decide_eq_true h2]; done) | (rw [decide_eq_true h1, decide_eq_false h2]; done) | (rw [decide_eq_true h1, decide_eq_true h2]; rfl) | (rw [decide_eq_true h1, decide_eq_false h2]; rfl) | (rw [decide_eq_true h1, Bool.true_and]; simp)), (HB _).out⟩
      · have h3 : s.size < 1 := by omega
        go_wp2
        go_ret
        exact ⟨ret_bool (by rw [HNM.out, decide_eq_false h1]; rfl), (HB _).out⟩
end Go.Proofs.YteamacekhfncnaaDoor

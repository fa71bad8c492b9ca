/- Lists of terms: the copy that a law makes of one, ValidTerms, l03Ok. -/
import Derived.Test.YthfhjgmlcilmkaaGreatDoorHeld
namespace Go.Proofs.YthfhjgmlcilmkaaGreatDoor
open Go.RowKit

theorem made_i64 (n : Nat) : madeCells (Value.int .i64 0).cells n = Array.replicate n (.int .i64 0) := by
  have e : (Value.int .i64 0).cells = #[.int .i64 0] := rfl
  rw [e]
  unfold madeCells
  apply Array.ext
  · simp
  · intro i h1 h2
    simp [Nat.mod_one]
theorem copy_step {xs : List Int} {j n : Nat} (h : j < xs.length) (hn : xs.length = n) : (il (xs.take j) ++ List.replicate (n - j) (Value.int .i64 0)).set j (.int .i64 xs[j]) = il (xs.take (j + 1)) ++ List.replicate (n - (j + 1)) (Value.int .i64 0) := by
  have hl : (il (xs.take j)).length = j := by rw [il_len, List.length_take]; omega
  rw [List.set_append_right _ _ (by omega), hl, Nat.sub_self, show n - j = (n - (j + 1)) + 1 by omega, List.replicate_succ, List.take_succ_eq_append_getElem h, il_append, List.append_assoc]
  rfl
theorem copy_get {xs : List Int} {j n : Nat} (h : j < xs.length) (hn : xs.length = n) : (il (xs.take j) ++ List.replicate (n - j) (Value.int .i64 0))[j]? = some (.int .i64 0) := by
  have hl : (il (xs.take j)).length = j := by rw [il_len, List.length_take]; omega
  rw [List.getElem?_append_right (by omega), hl, Nat.sub_self, show n - j = (n - (j + 1)) + 1 by omega]
  rfl

/-- Terms that are valid. -/
def VT (ts : List Int) : Prop := (1 ≤ ts.length ∧ ts.length ≤ 60) ∧ ∀ i (h : i < ts.length), (if i = 0 then -1000000000 else 1) ≤ ts[i] ∧ ts[i] ≤ 1000000000

theorem l03Ok_any (A : Option Addr) (n c B : Nat) (ts : List Int) (w : World) (hn : n ≤ 2000000) (h : Rd w B 1 A n (il ts)) :
    Calls Tryz.prog 34 #[.slice A n c] w fun e w' => ∃ b, e = .returned (.bool b) ∧ (b = true ↔ VT ts) ∧ w = w' := by
  have hl : ts.length = n := by have := h.1; rw [il_len] at this; omega
  go_enter Tryz.func34, Tryz.ntmps34
  go_wp2_with fail
  go_loopw [3] (fun i wr => ∃ k : Nat, i = .int .i64 k ∧ k ≤ n ∧ (∀ i (h : i < ts.length), i < k → (if i = 0 then -1000000000 else 1) ≤ ts[i] ∧ ts[i] ≤ 1000000000) ∧ wr = w) (fun i _ => n - (intOf i).toNat)
  case atStart => exact ⟨0, rfl, by omega, fun i _ h => by omega, rfl⟩
  case round =>
    obtain ⟨k, rfl, hk, hall, rfl⟩ := hrel
    by_cases hlt : k < n
    · obtain ⟨b, o, rfl, hb, e1⟩ := h.cell hlt
      rw [il_at (by omega)] at e1
      obtain ⟨x, hx⟩ : ∃ x, ts[k]'(by omega) = x := ⟨_, rfl⟩
      rw [hx] at e1
      obtain ⟨lo, hlo⟩ : ∃ lo : Int, (if k = 0 then -1000000000 else 1) = lo := ⟨_, rfl⟩
      have hbad : inB x lo 1000000000 = false → ¬ VT ts := by
        intro hb ⟨_, hv⟩
        have h2 := hv k (by omega)
        rw [hx, hlo] at h2
        rw [inB_of h2] at hb
        cases hb
      have hgood : inB x lo 1000000000 = true → (∀ i (h : i < ts.length), i < k + 1 → (if i = 0 then -1000000000 else 1) ≤ ts[i] ∧ ts[i] ≤ 1000000000) := by
        intro hb i hi h2
        by_cases e : i = k
        · subst e
          rw [hx, hlo]
          exact inB_iff.1 hb
        · exact hall i hi (by omega)
      have HB := hide hbad
      have HG := hide hgood
      have i1 : (k : Int) < (n : Int) := by omega
      clear hbad hgood hall hx hb h
      by_cases h0 : k = 0
      · subst h0
        rw [Nat.add_zero] at e1
        rw [if_pos rfl] at hlo
        subst hlo
        rcases Bool.eq_false_or_eq_true (inB x (-1000000000) 1000000000) with hin | hin
        · go_wp2_with fail
          refine (l00In_any _ _ _ _).mono ?_
          rintro e w1 ⟨rfl, rfl⟩
          rw [hin]
          go_wp2_with fail
          go_roundw
          case rel => exact ⟨1, by first | rfl | go_num, by omega, HG.out hin, trivial⟩
          case measure => simp [intOf]; omega
        · go_wp2_with fail
          refine (l00In_any _ _ _ _).mono ?_
          rintro e w1 ⟨rfl, rfl⟩
          rw [hin]
          go_wp2_with fail
          go_ret
          exact ⟨false, rfl, ⟨(fun h => by cases h), fun h => absurd h (HB.out hin)⟩, rfl⟩
      · rw [if_neg h0] at hlo
        subst hlo
        have h00 : ((k : Int) == 0) = false := by simp; omega
        rcases Bool.eq_false_or_eq_true (inB x 1 1000000000) with hin | hin
        · go_wp2_with fail
          refine (l00In_any _ _ _ _).mono ?_
          rintro e w1 ⟨rfl, rfl⟩
          rw [hin]
          go_wp2_with fail
          go_roundw
          case rel => exact ⟨k + 1, by first | rfl | go_num, by omega, HG.out hin, trivial⟩
          case measure => simp [intOf]; omega
        · go_wp2_with fail
          refine (l00In_any _ _ _ _).mono ?_
          rintro e w1 ⟨rfl, rfl⟩
          rw [hin]
          go_wp2_with fail
          go_ret
          exact ⟨false, rfl, ⟨(fun h => by cases h), fun h => absurd h (HB.out hin)⟩, rfl⟩
    · have hkn : k = n := by omega
      subst hkn
      have hiff : inB (k : Int) 1 60 = true ↔ VT ts := by
        rw [inB_iff]
        constructor
        · intro h2
          exact ⟨by omega, fun i hi => hall i hi (by omega)⟩
        · rintro ⟨h2, _⟩
          omega
      have HI := hide hiff
      clear hiff hall h
      go_wp2_with fail
      refine (l00In_any _ _ _ _).mono ?_
      rintro e w1 ⟨rfl, rfl⟩
      go_wp2_with fail
      go_ret
      exact ⟨_, rfl, HI.out, rfl⟩

/-- A term that is out of bounds. -/
def badT (t : Int) : Bool := !inB t 1 1000000000
theorem badT_any (t : Int) (w : World) :
    Calls Tryz.prog 51 #[.int .i64 t] w fun e w' => e = .returned (.bool (badT t)) ∧ w = w' := by
  go_enter Tryz.func51, Tryz.ntmps51
  go_wp2_with fail
  refine (within_any _ _ _ _).mono ?_
  rintro e w1 ⟨rfl, rfl⟩
  go_wp2_with fail
  go_ret
  exact ⟨rfl, rfl⟩

set_option maxRecDepth 100000 in
theorem indexBad_any (A : Option Addr) (n c B : Nat) (us : List Int) (w : World) (hn : n ≤ 2000000) (h : Rd w B 1 A n (il us)) :
    Calls Tryz.prog 79 #[.slice A n c, .func (.func 51) #[] #[]] w fun e w' => ∃ r : Int, e = .returned (.int .i64 r) ∧ (0 ≤ r ↔ ∃ i, ∃ h : i < us.length, badT us[i] = true) ∧ w = w' := by
  have hl : us.length = n := by have := h.1; rw [il_len] at this; omega
  go_enter Tryz.func79, Tryz.ntmps79
  go_wp2
  go_loopw [8] (fun i wr => ∃ k : Nat, i = .int .i64 k ∧ k ≤ n ∧ (∀ i (h : i < us.length), i < k → badT us[i] = false) ∧ w = wr) (fun i _ => n - (intOf i).toNat)
  case atStart => exact ⟨0, rfl, by omega, fun i _ h => by omega, rfl⟩
  case round =>
    obtain ⟨k, rfl, hk, hany, rfl⟩ := hrel
    by_cases hlt : k < n
    · obtain ⟨b, o, rfl, _, e1⟩ := h.cell hlt
      rw [il_at (by omega)] at e1
      obtain ⟨x, hx⟩ : ∃ x, us[k]'(by omega) = x := ⟨_, rfl⟩
      rw [hx] at e1
      have HT : Hid (badT x = true → ∃ i, ∃ h : i < us.length, badT us[i] = true) := fun hb => ⟨k, by omega, by rw [hx]; exact hb⟩
      have HS : Hid (badT x = false → ∀ i (h : i < us.length), i < k + 1 → badT us[i] = false) := by
        intro hb i hi h2
        by_cases e : i = k
        · subst e; rw [hx]; exact hb
        · exact hany i hi (by omega)
      clear h hany hx
      rcases Bool.eq_false_or_eq_true (badT x) with hb | hb
      · go_wp2_with fail
        refine (badT_any _ _).mono ?_
        rintro e w1 ⟨rfl, rfl⟩
        rw [hb]
        go_wp2_with fail
        go_ret
        exact ⟨k, rfl, ⟨fun _ => HT.out hb, fun _ => by omega⟩, rfl⟩
      · go_wp2_with fail
        refine (badT_any _ _).mono ?_
        rintro e w1 ⟨rfl, rfl⟩
        rw [hb]
        go_wp2_with fail
        go_roundw
        case rel => exact ⟨k + 1, by go_num, by omega, HS.out hb, trivial⟩
        case measure => simp [intOf]; omega
    · have hkn : k = n := by omega
      have HN : Hid (¬ ∃ i, ∃ h : i < us.length, badT us[i] = true) := by
        rintro ⟨i, hi, hb⟩
        rw [hany i hi (by omega)] at hb
        cases hb
      subst hkn
      clear h hany
      go_wp2
      go_ret
      exact ⟨-1, rfl, ⟨fun h => by omega, fun h => absurd h HN.out⟩, rfl⟩

set_option maxRecDepth 100000 in
theorem containsBad_any (A : Option Addr) (n c B : Nat) (us : List Int) (w : World) (hn : n ≤ 2000000) (h : Rd w B 1 A n (il us)) :
    Calls Tryz.prog 50 #[.slice A n c, .func (.func 51) #[] #[]] w fun e w' => ∃ b, e = .returned (.bool b) ∧ (b = true ↔ ∃ i, ∃ h : i < us.length, badT us[i] = true) ∧ w = w' := by
  have hI := fun w => indexBad_any A n c B us w hn
  go_enter Tryz.func50, Tryz.ntmps50
  go_wp2_with fail
  refine (hI _ h).mono ?_
  rintro e w1 ⟨r, rfl, hr, rfl⟩
  have HR := hide hr
  clear hr hI h
  go_wp2_with fail
  go_ret
  exact ⟨_, rfl, by rw [← HR.out]; simp, rfl⟩

theorem size_any (A : Option Addr) (n c : Nat) (w : World) :
    Calls Tryz.prog 49 #[.slice A n c] w fun e w' => e = .returned (.int .i64 n) ∧ w = w' := by
  go_enter Tryz.func49, Tryz.ntmps49
  go_wp2
  go_ret
  exact ⟨rfl, rfl⟩

set_option maxRecDepth 100000 in
set_option maxHeartbeats 1000000 in
theorem validTerms_any (g n c : Nat) (ts : List Int) (w : World) (hn : n ≤ 2000000) (h : Row w g 2 1 n c (il ts)) :
    Calls Tryz.prog 32 #[.slice (some ⟨g, 0, none⟩) n c] w fun e w' => ∃ b, e = .returned (.bool b) ∧ (b = true ↔ VT ts) ∧ w = w' := by
  have hl : ts.length = n := by have := h.len; rw [il_len] at this; omega
  have hcap := h.cap_
  simp only [maxLen] at hcap
  by_cases h1 : 1 ≤ n ∧ n ≤ 60
  · have hd : ∀ A, (A = some ⟨g, 1, none⟩ ∨ n = 1) → Rd w w.heap.size 1 A (n - 1) (il (ts.drop 1)) := by
      refine fun A hA => ⟨by rw [il_len, List.length_drop]; omega, fun h0 => ⟨g, 1, by rcases hA with h | h; exact h; omega, h.lt, fun j u hu => ?_⟩⟩
      refine h.cell ?_
      rw [Nat.add_comm]
      simpa [il] using hu
    have hC := fun A c => containsBad_any A (n - 1) c w.heap.size (ts.drop 1) w (by omega)
    have c0 := h.cell (il_at (show 0 < ts.length by omega))
    obtain ⟨x, hx⟩ : ∃ x, ts[0]'(by omega) = x := ⟨_, rfl⟩
    rw [hx] at c0
    have HV : Hid ((inB x (-1000000000) 1000000000 = true ∧ ¬ ∃ i, ∃ h : i < (ts.drop 1).length, badT (ts.drop 1)[i] = true) ↔ VT ts) := by
      constructor
      · rintro ⟨a1, a2⟩
        refine ⟨by omega, fun i hi => ?_⟩
        by_cases h0 : i = 0
        · subst h0
          rw [if_pos rfl, hx]
          exact inB_iff.1 a1
        · rw [if_neg h0]
          apply Classical.byContradiction
          intro hno
          refine a2 ⟨i - 1, by rw [List.length_drop]; omega, ?_⟩
          have e : (ts.drop 1)[i - 1]'(by rw [List.length_drop]; omega) = ts[i] := by
            rw [List.getElem_drop]
            congr 1
            omega
          rw [e]
          unfold badT
          rw [inB_no hno]
          rfl
      · rintro ⟨_, hv⟩
        refine ⟨?_, ?_⟩
        · have := hv 0 (by omega)
          rw [if_pos rfl, hx] at this
          exact inB_of this
        · rintro ⟨i, hi, hb⟩
          have hi2 : 1 + i < ts.length := by rw [List.length_drop] at hi; omega
          have := hv (1 + i) hi2
          rw [if_neg (by omega)] at this
          rw [List.getElem_drop] at hb
          unfold badT at hb
          rw [inB_of this] at hb
          cases hb
    obtain ⟨m, rfl⟩ : ∃ m, n = m + 1 := ⟨n - 1, by omega⟩
    obtain ⟨d, rfl⟩ : ∃ d, c = d + 1 := ⟨c - 1, by omega⟩
    have e1 : inB ((m : Int) + 1) 1 60 = true := inB_of (by omega)
    generalize hT : ts.drop 1 = us at *
    clear hT h hx
    rcases Bool.eq_false_or_eq_true (inB x (-1000000000) 1000000000) with hin | hin
    · by_cases hd0 : d = 0
      · obtain rfl : m = 0 := by omega
        subst hd0
        go_enter Tryz.func32, Tryz.ntmps32
        go_wp2_with fail
        refine (size_any _ _ _ _).mono ?_
        rintro e w1 ⟨rfl, rfl⟩
        go_wp2_with fail
        refine (within_any _ _ _ _).mono ?_
        rintro e w1 ⟨rfl, rfl⟩
        rw [show inB 1 1 60 = true from rfl]
        go_wp2_with fail
        refine (within_any _ _ _ _).mono ?_
        rintro e w1 ⟨rfl, rfl⟩
        rw [hin]
        go_wp2_with fail
        refine (hC _ _ (hd _ (.inr trivial))).mono ?_
        rintro e w1 ⟨b, rfl, hb, rfl⟩
        have HB := hide hb
        clear hb
        go_wp2_with fail
        go_ret
        exact ⟨!b, rfl, by rw [← HV.out, ← HB.out]; cases b <;> simp [hin], rfl⟩
      · go_enter Tryz.func32, Tryz.ntmps32
        go_wp2_with fail
        refine (size_any _ _ _ _).mono ?_
        rintro e w1 ⟨rfl, rfl⟩
        go_wp2_with fail
        refine (within_any _ _ _ _).mono ?_
        rintro e w1 ⟨rfl, rfl⟩
        rw [e1]
        go_wp2_with fail
        refine (within_any _ _ _ _).mono ?_
        rintro e w1 ⟨rfl, rfl⟩
        rw [hin]
        go_wp2_with fail
        refine (hC _ _ (hd _ (.inl rfl))).mono ?_
        rintro e w1 ⟨b, rfl, hb, rfl⟩
        have HB := hide hb
        clear hb
        go_wp2_with fail
        go_ret
        exact ⟨!b, rfl, by rw [← HV.out, ← HB.out]; cases b <;> simp [hin], rfl⟩
    · go_enter Tryz.func32, Tryz.ntmps32
      go_wp2_with fail
      refine (size_any _ _ _ _).mono ?_
      rintro e w1 ⟨rfl, rfl⟩
      go_wp2_with fail
      refine (within_any _ _ _ _).mono ?_
      rintro e w1 ⟨rfl, rfl⟩
      rw [e1]
      go_wp2_with fail
      refine (within_any _ _ _ _).mono ?_
      rintro e w1 ⟨rfl, rfl⟩
      rw [hin]
      go_wp2_with fail
      go_ret
      exact ⟨false, rfl, by rw [← HV.out]; simp [hin], rfl⟩
  · have e1 := inB_no (n := (n : Int)) (lo := 1) (hi := 60) (by omega)
    have HV : Hid (¬ VT ts) := by
      rintro ⟨h2, _⟩
      exact h1 (by omega)
    clear h
    go_enter Tryz.func32, Tryz.ntmps32
    go_wp2_with fail
    refine (size_any _ _ _ _).mono ?_
    rintro e w1 ⟨rfl, rfl⟩
    go_wp2_with fail
    refine (within_any _ _ _ _).mono ?_
    rintro e w1 ⟨rfl, rfl⟩
    rw [e1]
    go_wp2_with fail
    go_ret
    exact ⟨false, rfl, ⟨(fun h => by cases h), fun h => absurd h HV.out⟩, rfl⟩

end Go.Proofs.YthfhjgmlcilmkaaGreatDoor

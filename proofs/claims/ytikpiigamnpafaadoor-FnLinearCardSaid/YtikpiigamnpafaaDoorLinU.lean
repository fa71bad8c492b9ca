/- LinearText: the program's and the reference's; the law. -/
import Derived.Test.YtikpiigamnpafaaDoorDecI
import Derived.Test.YtikpiigamnpafaaDoorLin5
namespace Go.Proofs.YtikpiigamnpafaaDoor
open Go.RowKit Go.Sort

theorem itoa_len (n : Int) (hn : -9223372036854775808 ≤ n ∧ n ≤ 9223372036854775807) : (Lib.itoa n).length ≤ 21 := by
  have h1 : (nd n.natAbs).length ≤ 20 := nd_len 20 _ (by omega)
  rw [nd_itoa]
  split
  · simp
  · split
    · simp; omega
    · omega
/-- The text of an equation, and its size. -/
def ltx (a b c : Int) : ByteArray :=
  if liB a b c = true then ⟨(Lib.itoa a).toArray⟩ ++ ⟨#[32, 42, 32, 120, 32, 43, 32]⟩ ++ ⟨(Lib.itoa b).toArray⟩ ++ ⟨#[32, 42, 32, 121, 32, 61, 32]⟩ ++ ⟨(Lib.itoa c).toArray⟩ else ⟨#[]⟩
theorem itoa_str (n : Int) (hn : -9223372036854775808 ≤ n ∧ n ≤ 9223372036854775807) : ∃ S : ByteArray, S = ⟨(Lib.itoa n).toArray⟩ ∧ S.size ≤ 21 :=
  ⟨_, rfl, by show (Lib.itoa n).toArray.size ≤ 21; rw [List.size_toArray]; exact itoa_len n hn⟩
theorem size_cat (s t : ByteArray) : (s ++ t).size = s.size + t.size := by
  show (s ++ t).data.size = s.data.size + t.data.size
  simp

set_option maxHeartbeats 2000000 in
theorem implLinearText_any (a b c : Int) (w : World) (ht : Tab w) :
    Calls Tryd.prog 8 #[.int .i64 a, .int .i64 b, .int .i64 c] w fun e w' => e = .returned (.string (ltx a b c)) ∧ Below w.heap.size w w' := by
  by_cases hl : liB a b c = true
  · obtain ⟨⟨ha, _⟩, ⟨hb, _⟩, hc⟩ := liB_iff.1 hl
    have hA := fun w (h : Tab w) => implDecimal_any a w (by omega) h
    have hB := fun w (h : Tab w) => implDecimal_any b w (by omega) h
    have hC := fun w (h : Tab w) => implDecimal_any c w (by omega) h
    have e : ltx a b c = ⟨(Lib.itoa a).toArray⟩ ++ ⟨#[32, 42, 32, 120, 32, 43, 32]⟩ ++ ⟨(Lib.itoa b).toArray⟩ ++ ⟨#[32, 42, 32, 121, 32, 61, 32]⟩ ++ ⟨(Lib.itoa c).toArray⟩ := if_pos hl
    rw [e]
    unfold str at hA hB hC
    obtain ⟨SA, eA, sA⟩ := itoa_str a (by omega)
    obtain ⟨SB, eB, sB⟩ := itoa_str b (by omega)
    obtain ⟨SC, eC, sC⟩ := itoa_str c (by omega)
    rw [← eA] at hA ⊢
    rw [← eB] at hB ⊢
    rw [← eC] at hC ⊢
    have z1 : (ByteArray.size ⟨#[32, 42, 32, 120, 32, 43, 32]⟩) = 7 := rfl
    have z2 : (ByteArray.size ⟨#[32, 42, 32, 121, 32, 61, 32]⟩) = 7 := rfl
    have big : ∀ s t : ByteArray, s.size ≤ 200 → t.size ≤ 200 → ¬ IntKind.i64.max < ((s.size + t.size : Nat) : Int) := fun s t h1 h2 => by
      show ¬ (9223372036854775807 : Int) < ((s.size + t.size : Nat) : Int)
      omega
    have big' : ∀ s t : ByteArray, s.size ≤ 200 → t.size ≤ 200 → ¬ (9223372036854775807 : Int) < (s.size : Int) + (t.size : Int) := fun s t h1 h2 => by omega
    have m1 := big SA ⟨#[32, 42, 32, 120, 32, 43, 32]⟩ (by omega) (by omega)
    have m1' : ¬ (9223372036854775807 : Int) < (SA.size : Int) + 7 := by omega
    have y2 : (SA ++ ⟨#[32, 42, 32, 120, 32, 43, 32]⟩).size ≤ 28 := by rw [size_cat]; omega
    clear eA eB eC e ha hb hc
    go_enter Tryd.func8, Tryd.ntmps8
    go_wp2_with fail
    refine (isLinear_any _ _ _ _).mono ?_
    rintro e w1 ⟨rfl, rfl⟩
    rw [hl]
    go_wp2_with fail
    refine (hA _ ht).mono ?_
    rintro e w1 ⟨rfl, b1⟩
    have t1 := ht.below b1
    go_wp2_with fail
    refine (hB _ t1).mono ?_
    rintro e w2 ⟨rfl, b2⟩
    have t2 := t1.below b2
    generalize hS1 : SA ++ ⟨#[32, 42, 32, 120, 32, 43, 32]⟩ = S1 at *
    have HS1 := hide hS1
    clear hS1
    have m2 := big S1 SB (by omega) (by omega)
    have m2' := big' S1 SB (by omega) (by omega)
    have y3 : (S1 ++ SB).size ≤ 49 := by rw [size_cat]; omega
    have m3 := big (S1 ++ SB) ⟨#[32, 42, 32, 121, 32, 61, 32]⟩ (by omega) (by omega)
    have m3' : ¬ (9223372036854775807 : Int) < ((S1 ++ SB).size : Int) + 7 := by omega
    have y4 : (S1 ++ SB ++ ⟨#[32, 42, 32, 121, 32, 61, 32]⟩).size ≤ 56 := by rw [size_cat]; omega
    have hsz := size_cat S1 SB
    have m3s : ¬ (9223372036854775807 : Int) < (S1.size : Int) + (SB.size : Int) + 7 := by omega
    go_wp2_with fail
    refine (hC _ t2).mono ?_
    rintro e w3 ⟨rfl, b3⟩
    generalize hS2 : S1 ++ SB ++ ⟨#[32, 42, 32, 121, 32, 61, 32]⟩ = S2 at *
    have HS2 := hide hS2
    clear hS2
    have m4 := big S2 SC (by omega) (by omega)
    have m4' := big' S2 SC (by omega) (by omega)
    clear m1 m1' m2 m2' m3 m3' hsz m3s
    go_wp2_with fail
    go_ret
    exact ⟨by rw [← HS1.out] at HS2; rw [← HS2.out]; rfl, bstep (bstep b1 b2 b1.size) b3 (Nat.le_trans b1.size b2.size)⟩
  · have hl' : liB a b c = false := by simpa using hl
    have e : ltx a b c = ⟨#[]⟩ := if_neg hl
    rw [e]
    go_enter Tryd.func8, Tryd.ntmps8
    go_wp2_with fail
    refine (isLinear_any _ _ _ _).mono ?_
    rintro e w1 ⟨rfl, rfl⟩
    rw [hl']
    go_wp2_with fail
    go_ret
    exact ⟨rfl, Below.refl _ _⟩

set_option maxHeartbeats 2000000 in
theorem specLinearText_any (a b c : Int) (w : World) (ht : Tab w) :
    Calls Tryd.prog 7 #[.int .i64 a, .int .i64 b, .int .i64 c] w fun e w' => e = .returned (.string (ltx a b c)) ∧ Below w.heap.size w w' := by
  by_cases hl : liB a b c = true
  · obtain ⟨⟨ha, _⟩, ⟨hb, _⟩, hc⟩ := liB_iff.1 hl
    have hA := fun w (_ : Tab w) => l01Dec_any a w (by omega)
    have hB := fun w (_ : Tab w) => l01Dec_any b w (by omega)
    have hC := fun w (_ : Tab w) => l01Dec_any c w (by omega)
    have e : ltx a b c = ⟨(Lib.itoa a).toArray⟩ ++ ⟨#[32, 42, 32, 120, 32, 43, 32]⟩ ++ ⟨(Lib.itoa b).toArray⟩ ++ ⟨#[32, 42, 32, 121, 32, 61, 32]⟩ ++ ⟨(Lib.itoa c).toArray⟩ := if_pos hl
    rw [e]
    unfold str at hA hB hC
    obtain ⟨SA, eA, sA⟩ := itoa_str a (by omega)
    obtain ⟨SB, eB, sB⟩ := itoa_str b (by omega)
    obtain ⟨SC, eC, sC⟩ := itoa_str c (by omega)
    rw [← eA] at hA ⊢
    rw [← eB] at hB ⊢
    rw [← eC] at hC ⊢
    have z1 : (ByteArray.size ⟨#[32, 42, 32, 120, 32, 43, 32]⟩) = 7 := rfl
    have z2 : (ByteArray.size ⟨#[32, 42, 32, 121, 32, 61, 32]⟩) = 7 := rfl
    have big : ∀ s t : ByteArray, s.size ≤ 200 → t.size ≤ 200 → ¬ IntKind.i64.max < ((s.size + t.size : Nat) : Int) := fun s t h1 h2 => by
      show ¬ (9223372036854775807 : Int) < ((s.size + t.size : Nat) : Int)
      omega
    have big' : ∀ s t : ByteArray, s.size ≤ 200 → t.size ≤ 200 → ¬ (9223372036854775807 : Int) < (s.size : Int) + (t.size : Int) := fun s t h1 h2 => by omega
    have m1 := big SA ⟨#[32, 42, 32, 120, 32, 43, 32]⟩ (by omega) (by omega)
    have m1' : ¬ (9223372036854775807 : Int) < (SA.size : Int) + 7 := by omega
    have y2 : (SA ++ ⟨#[32, 42, 32, 120, 32, 43, 32]⟩).size ≤ 28 := by rw [size_cat]; omega
    clear eA eB eC e ha hb hc
    go_enter Tryd.func7, Tryd.ntmps7
    go_wp2_with fail
    refine (l21Code_any false a b c _).mono ?_
    rintro e w0 ⟨rfl, mm, rfl⟩
    rw [show lcode false a b c = 0 by simp [lcode, hl]]
    have ht0 : Tab (w.drewN mm) := ht
    go_wp2_with fail
    refine (hA _ ht0).mono ?_
    rintro e w1 ⟨rfl, b1⟩
    have t1 := ht0.below b1
    go_wp2_with fail
    refine (hB _ t1).mono ?_
    rintro e w2 ⟨rfl, b2⟩
    have t2 := t1.below b2
    generalize hS1 : SA ++ ⟨#[32, 42, 32, 120, 32, 43, 32]⟩ = S1 at *
    have HS1 := hide hS1
    clear hS1
    have m2 := big S1 SB (by omega) (by omega)
    have m2' := big' S1 SB (by omega) (by omega)
    have y3 : (S1 ++ SB).size ≤ 49 := by rw [size_cat]; omega
    have m3 := big (S1 ++ SB) ⟨#[32, 42, 32, 121, 32, 61, 32]⟩ (by omega) (by omega)
    have m3' : ¬ (9223372036854775807 : Int) < ((S1 ++ SB).size : Int) + 7 := by omega
    have y4 : (S1 ++ SB ++ ⟨#[32, 42, 32, 121, 32, 61, 32]⟩).size ≤ 56 := by rw [size_cat]; omega
    have hsz := size_cat S1 SB
    have m3s : ¬ (9223372036854775807 : Int) < (S1.size : Int) + (SB.size : Int) + 7 := by omega
    go_wp2_with fail
    refine (hC _ t2).mono ?_
    rintro e w3 ⟨rfl, b3⟩
    generalize hS2 : S1 ++ SB ++ ⟨#[32, 42, 32, 121, 32, 61, 32]⟩ = S2 at *
    have HS2 := hide hS2
    clear hS2
    have m4 := big S2 SC (by omega) (by omega)
    have m4' := big' S2 SC (by omega) (by omega)
    clear m1 m1' m2 m2' m3 m3' hsz m3s
    go_wp2_with fail
    go_ret
    exact ⟨by rw [← HS1.out] at HS2; rw [← HS2.out]; rfl, (belowN (Below.refl _ _) mm).trans (bstep (bstep b1 b2 b1.size) b3 (Nat.le_trans b1.size b2.size))⟩
  · have hl' : liB a b c = false := by simpa using hl
    have e : ltx a b c = ⟨#[]⟩ := if_neg hl
    rw [e]
    go_enter Tryd.func7, Tryd.ntmps7
    go_wp2_with fail
    refine (l21Code_any false a b c _).mono ?_
    rintro e w0 ⟨rfl, mm, rfl⟩
    rw [show lcode false a b c = 2 by simp [lcode, hl']]
    go_wp2_with fail
    go_ret
    exact ⟨rfl, belowN (Below.refl _ _) mm⟩

end Go.Proofs.YtikpiigamnpafaaDoor

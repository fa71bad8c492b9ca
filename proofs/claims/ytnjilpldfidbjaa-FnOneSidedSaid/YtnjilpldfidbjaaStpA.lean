/- tooLong, stepsTo, convergents: the program's. -/
import Derived.Test.YtnjilpldfidbjaaStpP
import Derived.Test.YtnjilpldfidbjaaHeldF
import Derived.Test.YtnjilpldfidbjaaNumG
namespace Go.Proofs.Ytnjilpldfidbjaa
open Go.RowKit

def gtK (t : Int) : Bool := decide (1000 < t)
def anyK (us : List Int) (k : Nat) : Bool := (us.take k).any gtK
theorem anyK_succ {us : List Int} {k : Nat} (h : k < us.length) : anyK us (k + 1) = (anyK us k || gtK us[k]) := by
  unfold anyK
  rw [List.take_succ_eq_append_getElem h, List.any_append]
  simp
theorem anyK_all (us : List Int) : anyK us us.length = us.any gtK := by simp [anyK]
theorem anyK_true {us : List Int} {k : Nat} (h : k < us.length) (h2 : gtK us[k] = true) : us.any gtK = true := List.any_eq_true.2 ⟨_, List.getElem_mem h, h2⟩

theorem big_any (t : Int) (w : World) :
    Calls Try.prog 79 #[.int .i64 t] w fun e w' => e = .returned (.bool (gtK t)) ∧ w = w' := by
  go_enter Try.func79, Try.ntmps79
  go_wp2
  go_ret
  exact ⟨rfl, rfl⟩

theorem Rd.cell1 {w : World} {B n : Nat} {A : Option Addr} {us : List Int} (h : Rd w B 1 A n (il us)) (hl : us.length = n) {i : Nat} (hi : i < n) :
    ∃ b o, A = some ⟨b, o, none⟩ ∧ b < B ∧ w.cell? ⟨b, o + i, none⟩ = some (.int .i64 (us[i]'(by omega))) := by
  obtain ⟨b, o, e, hb, hc⟩ := h.2 (by omega)
  exact ⟨b, o, e, hb, hc _ _ (il_at (by omega))⟩

set_option maxRecDepth 100000 in
theorem indexBig_any (A : Option Addr) (n c : Nat) (us : List Int) (w : World) (hn : n ≤ 1000000000) (hl : us.length = n) (h : Rd w w.heap.size 1 A n (il us)) :
    Calls Try.prog 84 #[.slice A n c, .func (.func 79) #[] #[]] w fun e w' => ∃ r : Int, e = .returned (.int .i64 r) ∧ decide (0 ≤ r) = us.any gtK ∧ w = w' := by
  go_enter Try.func84, Try.ntmps84
  go_wp2
  go_loopw [8] (fun i wr => ∃ k : Nat, i = .int .i64 k ∧ k ≤ n ∧ anyK us k = false ∧ w = wr) (fun i _ => n - (intOf i).toNat)
  case atStart => exact ⟨0, rfl, by omega, rfl, rfl⟩
  case round =>
    obtain ⟨k, rfl, hk, hany, rfl⟩ := hrel
    by_cases hlt : k < n
    · obtain ⟨b, o, rfl, _, e1⟩ := h.cell1 hl hlt
      have hs := anyK_succ (us := us) (k := k) (by omega)
      rw [hany, Bool.false_or] at hs
      have ht := anyK_true (us := us) (k := k) (by omega)
      generalize us[k]'(by omega) = x at *
      have HS := hide hs
      have HT := hide ht
      clear hs ht h hany
      rcases Bool.eq_false_or_eq_true (gtK x) with hx | hx
      · go_wp2_with fail
        refine (big_any _ _).mono ?_
        rintro e w1 ⟨rfl, rfl⟩
        rw [hx]
        go_wp2_with fail
        go_ret
        exact ⟨k, rfl, by rw [HT.out hx]; simp, rfl⟩
      · go_wp2_with fail
        refine (big_any _ _).mono ?_
        rintro e w1 ⟨rfl, rfl⟩
        rw [hx]
        go_wp2_with fail
        go_roundw
        case rel => exact ⟨k + 1, by go_num, by omega, by rw [HS.out, hx], trivial⟩
        case measure => simp [intOf]; omega
    · have hkn : k = n := by omega
      subst hkn
      rw [← hl, anyK_all] at hany
      clear h hl
      go_wp2
      go_ret
      exact ⟨-1, rfl, by rw [hany]; rfl, rfl⟩

set_option maxRecDepth 100000 in
theorem containsBig_any (A : Option Addr) (n c : Nat) (us : List Int) (w : World) (hn : n ≤ 1000000000) (hl : us.length = n) (h : Rd w w.heap.size 1 A n (il us)) :
    Calls Try.prog 78 #[.slice A n c, .func (.func 79) #[] #[]] w fun e w' => e = .returned (.bool (us.any gtK)) ∧ w = w' := by
  have hI := fun w => indexBig_any A n c us w hn hl
  go_enter Try.func78, Try.ntmps78
  go_wp2_with fail
  refine (hI _ h).mono ?_
  rintro e w1 ⟨r, rfl, hr, rfl⟩
  have HR := hide hr
  clear hr hI h
  go_wp2_with fail
  go_ret
  exact ⟨by rw [← HR.out]; rfl, rfl⟩

def tl (ts : List Int) : Bool := (ts.drop 1).any gtK
set_option maxRecDepth 100000 in
theorem tooLong_any (g n c : Nat) (ts : List Int) (w : World) (h1 : 1 ≤ n) (hn : n ≤ 1000000000) (h : Row w g 2 1 n c (il ts)) :
    Calls Try.prog 49 #[.slice (some ⟨g, 0, none⟩) n c] w fun e w' => e = .returned (.bool (tl ts)) ∧ w = w' := by
  have hl : ts.length = n := by have := h.len; rw [il_len] at this; omega
  have hcap := h.cap_
  simp only [maxLen] at hcap
  have hd : ∀ A, (A = some ⟨g, 1, none⟩ ∨ n = 1) → Rd w w.heap.size 1 A (n - 1) (il (ts.drop 1)) := by
    refine fun A hA => ⟨by rw [il_len, List.length_drop]; omega, fun h0 => ⟨g, 1, by rcases hA with h | h; exact h; omega, h.lt, fun j u hu => ?_⟩⟩
    refine h.cell ?_
    rw [Nat.add_comm]
    simpa [il] using hu
  have hC := fun A c w => containsBig_any A (n - 1) c (ts.drop 1) w (by omega) (by rw [List.length_drop]; omega)
  have e : (ts.drop 1).any gtK = tl ts := rfl
  rw [e] at hC
  generalize tl ts = b at *
  obtain ⟨m, rfl⟩ : ∃ m, n = m + 1 := ⟨n - 1, by omega⟩
  obtain ⟨d, rfl⟩ : ∃ d, c = d + 1 := ⟨c - 1, by omega⟩
  clear e hl h
  by_cases hd0 : d = 0
  · obtain rfl : m = 0 := by omega
    subst hd0
    go_enter Try.func49, Try.ntmps49
    go_wp2_with fail
    refine (hC _ _ _ (hd _ (.inr trivial))).mono ?_
    rintro e w1 ⟨rfl, rfl⟩
    go_wp2_with fail
    go_ret
    exact ⟨rfl, rfl⟩
  · go_enter Try.func49, Try.ntmps49
    go_wp2_with fail
    refine (hC _ _ _ (hd _ (.inl rfl))).mono ?_
    rintro e w1 ⟨rfl, rfl⟩
    go_wp2_with fail
    go_ret
    exact ⟨rfl, rfl⟩

end Go.Proofs.Ytnjilpldfidbjaa

/- The path to a fraction and its bounds: the program's and the reference's. -/
import Derived.Test.YtednobegombphaaDoorBnd
import Derived.Test.YtednobegombphaaDoorExp2
import Derived.Test.YtednobegombphaaDoorHeld
import Derived.StillTailTactics
namespace Go.Proofs.YtednobegombphaaDoor
open Go.RowKit

theorem il_set (l : List Int) (i : Nat) (x : Int) : (il l).set i (.int .i64 x) = il (l.set i x) := by unfold il; rw [List.map_set]

theorem terms_ub (M : Int) (b : Nat) : ∀ a : Int, 0 ≤ a → a ≤ M → (b : Int) ≤ M → ∀ t ∈ terms a b, t ≤ M := by
  induction b using Nat.strongRecOn with
  | _ b ih =>
    intro a h0 ha hb t ht
    by_cases h : b = 0
    · subst h; simp [terms_nil] at ht
    · rw [terms_cons a h, List.mem_cons] at ht
      have hr := rest_lt a h
      rcases ht with rfl | ht
      · have := Int.ediv_le_self (b : Int) h0
        omega
      · exact ih _ hr.1 b (by omega) hb (by omega) t ht

/-- The last term, and the row behind its store. -/
theorem last_facts {a b : Nat} (ha : 0 < a) (hb : b ≠ 0) (hg : Nat.gcd a b = 1) (ha2 : a ≤ 400) (hb2 : b ≤ 400) : ∃ (k : Nat) (x : Int), (terms a b).length = k + 1 ∧ k < 400 ∧ (il (terms a b))[k]? = some (.int .i64 x) ∧
    (il (terms a b)).set k (.int .i64 (x - 1)) = il (dec (terms a b)) ∧ (0 ≤ x ∧ x ≤ 1000) ∧ ((x = 1 ∧ k = 0 ∧ pth a b = []) ∨ (2 ≤ x ∧ pth a b = dec (terms a b))) := by
  have hne := terms_ne (a : Int) hb
  have hpos := List.length_pos_iff.2 hne
  have hlen := terms_len b a
  obtain ⟨k, hk⟩ : ∃ k, (terms a b).length = k + 1 := ⟨(terms a b).length - 1, by omega⟩
  have hds := dec_set hne
  have hdl := dec_len (terms a b)
  have hk2 : (terms a b).length - 1 = k := by omega
  have hx : ∃ x, (terms a b)[k]'(by omega) = x := ⟨_, rfl⟩
  obtain ⟨x, hx⟩ := hx
  have hds2 : dec (terms a b) = (terms a b).set k (x - 1) := by
    rw [hds]
    congr 1
    simp only [hk2, hx]
  have hmem : x ∈ terms (a : Int) b := by rw [← hx]; exact List.getElem_mem _
  have hdne : dec (terms a b) ≠ [] := by intro h; rw [h] at hdl; simp at hdl; omega
  have hgl : (dec (terms a b)).getLast hdne = x - 1 := by
    rw [List.getLast_eq_getElem]
    simp only [hds2, List.length_set, hk2, List.getElem_set_self]
  have hub : x ≤ 1000 := by
    have := terms_ub 400 b a (by omega) (by omega) (by omega) x hmem
    omega
  have hx2 : (terms (a : Int) b)[k]? = some x := by rw [List.getElem?_eq_getElem (by omega), hx]
  refine ⟨k, x, hk, by omega, ?_, by rw [il_set, hds2], ⟨?_, hub⟩, ?_⟩
  · rw [il_at (by omega), hx]
  · have := dec_pos ha hb hg _ (List.getLast_mem hdne)
    rw [hgl] at this; omega
  · by_cases h1 : a = 1 ∧ b = 1
    · obtain ⟨rfl, rfl⟩ := h1
      left
      have e : terms ((1 : Nat) : Int) 1 = [1] := by
        rw [terms_cons _ (by omega)]
        have : (((1 : Nat) : Int) % ((1 : Nat) : Int)).toNat = 0 := by decide
        rw [this, terms_nil]; rfl
      rw [e] at hk hx2
      simp at hk
      subst hk
      simp at hx2
      exact ⟨hx2.symm, rfl, by unfold pth; rw [if_pos ⟨rfl, rfl⟩]⟩
    · right
      have := dec_last ha hb hg h1 hdne
      rw [hgl] at this
      exact ⟨by omega, by unfold pth; rw [if_neg h1]⟩

set_option maxRecDepth 100000 in
theorem pathTo_any (a b : Nat) (w : World) (ha : 0 < a) (hb : b ≠ 0) (hg : Nat.gcd a b = 1) (ha2 : a ≤ 400) (hb2 : b ≤ 400) :
    Calls Tryd.prog 38 #[.agg #[.int .i64 a, .int .i64 b]] w fun e w' => ∃ v, e = .returned v ∧ Lst w' w.heap.size v (pth a b) ∧ Below w.heap.size w w' := by
  obtain ⟨k, x, hk, hk4, hx, hst, ⟨x0, x1⟩, hcase⟩ := last_facts ha hb hg ha2 hb2
  have hE := fun w => expand_any a b w hb (by omega) (by omega)
  rw [hk] at hE
  have HX := hide hx
  have HST := hide hst
  have hdl := dec_len (terms (a : Int) b)
  rw [hk] at hdl
  clear hk hx hst
  go_enter Tryd.func38, Tryd.ntmps38
  go_wp2_with fail
  refine (hE _).mono ?_
  rintro e w1 ⟨g, c, n, rfl, rfl, hg1, hr, hb1⟩
  have hg2 : w.heap.size ≤ g := by simp at hg1; omega
  have hB := bstep (show Below w.heap.size w _ by go_grown) hb1 (by simp)
  have hc := hr.cell HX.out
  have hf := hr.frozen k
  have hr2 := hr.store k (.int .i64 (x - 1))
  rw [HST.out] at hr2
  have hc2 := hr2.cell (j := k) (u := .int .i64 (x - 1)) (by rw [← HST.out, List.getElem?_set_self (by have := (List.getElem?_eq_some_iff.1 HX.out).1; exact this)])
  have hkn : (k : Int) + 1 - 1 = k := by omega
  have H2 := hide hr2
  clear hb1 hr hr2 hg1 hE
  rcases hcase with ⟨rfl, rfl, hp⟩ | ⟨hx2, hp⟩
  · have HP := hide hp
    clear hp
    have H3 := hide (Row.pop (xs := []) (n := 0) H2.out rfl)
    go_wp2_with fail
    go_ret
    exact ⟨_, rfl, by rw [HP.out]; exact Lst.of_row H3.out hg2 (by omega), hB.setCell hg2 _⟩
  · have HP := hide hp
    clear hp
    have hxb : ((x - 1) == 0) = false := beq_eq_false_iff_ne.2 (by omega)
    go_wp2_with fail
    go_ret
    exact ⟨_, rfl, by rw [HP.out]; exact Lst.of_row H2.out hg2 (by omega), hB.setCell hg2 _⟩

theorem drop_at {xs : List Int} {i : Nat} (h : i < xs.length) : xs.drop i = xs[i] :: xs.drop (i + 1) := List.drop_eq_getElem_cons h

set_option maxRecDepth 100000 in
theorem bounds_any (A : Option Addr) (n c B : Nat) (xs : List Int) (F : Int × Int × Int × Int) (w : World) (h : Rd w B 1 A n (il xs)) (hn : n ≤ 1000000000) (hx : ∀ m ∈ xs, 0 ≤ m) (hF : bnd xs true (0, 1, 1, 0) = F) (hF4 : le4 F (400, 400, 400, 400)) :
    Calls Tryd.prog 37 #[.slice A n c] w fun e w' => e = .returned (.tuple #[.int .i64 F.1, .int .i64 F.2.1, .int .i64 F.2.2.1, .int .i64 F.2.2.2]) ∧ w = w' := by
  have hl : xs.length = n := by have := h.1; rw [il_len] at this; omega
  go_enter Tryd.func37, Tryd.ntmps37
  go_wp2
  go_loopw [6, 7, 8, 9, 14] (fun a1 a2 a3 a4 i wr => ∃ k : Nat, ∃ p q r t : Int, i = .int .i64 k ∧ a1 = .int .i64 p ∧ a2 = .int .i64 q ∧ a3 = .int .i64 r ∧ a4 = .int .i64 t ∧ k ≤ n ∧ bnd (xs.drop k) (k % 2 == 0) (p, q, r, t) = F ∧ pos4 (p, q, r, t) ∧ wr = w) (fun _ _ _ _ i _ => n - (intOf i).toNat)
  case atStart => exact ⟨0, 0, 1, 1, 0, rfl, rfl, rfl, rfl, rfl, by omega, hF, by unfold pos4; decide, rfl⟩
  case round =>
    obtain ⟨k, p, q, r, t, rfl, rfl, rfl, rfl, rfl, hk, hb, hp, rfl⟩ := hrel
    have HB := hide hb
    have HP := hide hp
    clear hb hp
    by_cases hlt : k < n
    · obtain ⟨b, o, rfl, _, e1⟩ := h.cell hlt
      rw [il_at (by omega)] at e1
      have hb := HB.out
      rw [drop_at (show k < xs.length by omega)] at hb
      have hm := hx xs[k] (List.getElem_mem _)
      have hrest : ∀ m ∈ xs.drop (k + 1), 0 ≤ m := fun m hm => hx m (List.mem_of_mem_drop hm)
      generalize xs[k]'(by omega) = m at *
      unfold bnd at hb
      have s1 := bst_le (ev := k % 2 == 0) hm HP.out
      have s2 := bnd_le (ev := !(k % 2 == 0)) hrest s1.1
      rw [hb] at s2
      have hpar : (!(k % 2 == 0)) = ((k + 1) % 2 == 0) := by
        rcases Nat.mod_two_eq_zero_or_one k with h | h
        · rw [h]; have : (k + 1) % 2 = 1 := by omega
          rw [this]; rfl
        · rw [h]; have : (k + 1) % 2 = 0 := by omega
          rw [this]; rfl
      rw [hpar] at hb
      have HPO := HP.out
      unfold pos4 at HPO
      obtain ⟨n1, n2, n3, n4⟩ := HPO
      simp only at n1 n2 n3 n4
      have et : (k : Int).tmod 2 = ((k % 2 : Nat) : Int) := by rw [Int.tmod_eq_emod_of_nonneg (by omega)]; simp
      unfold le4 at s2 hF4
      by_cases hev : k % 2 = 0
      · have c1 : ((k % 2 : Nat) == 0) = true := by simp [hev]
        rw [c1] at hb s1 s2
        have ec : bst true m (p, q, r, t) = (p + m * r, q + m * t, r, t) := rfl
        rw [ec] at hb s1 s2
        obtain ⟨y1, hy1⟩ : ∃ y, m * r = y := ⟨_, rfl⟩
        obtain ⟨y2, hy2⟩ : ∃ y, m * t = y := ⟨_, rfl⟩
        have z1 := Int.mul_nonneg hm n3
        have z2 := Int.mul_nonneg hm n4
        rw [hy1] at hb s1 s2 z1
        rw [hy2] at hb s1 s2 z2
        have hs1 := hide s1.1
        have bb : p + y1 ≤ 400 ∧ q + y2 ≤ 400 := ⟨Int.le_trans s2.2.1 hF4.1, Int.le_trans s2.2.2.1 hF4.2.1⟩
        have HBB := hide hb
        rw [hev] at et
        clear h hl s1 s2 hb ec hF4 hF hrest hx HP HB
        go_wp2
        exact ⟨⟨k + 1, p + y1, q + y2, r, t, by go_num, rfl, rfl, rfl, rfl, by omega, HBB.out, hs1.out, trivial⟩, by simp [intOf]; omega⟩
      · have hod : k % 2 = 1 := by omega
        have c1 : ((k % 2 : Nat) == 0) = false := by simp [hod]
        rw [c1] at hb s1 s2
        have ec : bst false m (p, q, r, t) = (p, q, r + m * p, t + m * q) := rfl
        rw [ec] at hb s1 s2
        obtain ⟨y1, hy1⟩ : ∃ y, m * p = y := ⟨_, rfl⟩
        obtain ⟨y2, hy2⟩ : ∃ y, m * q = y := ⟨_, rfl⟩
        have z1 := Int.mul_nonneg hm n1
        have z2 := Int.mul_nonneg hm n2
        rw [hy1] at hb s1 s2 z1
        rw [hy2] at hb s1 s2 z2
        have hs1 := hide s1.1
        have bb : r + y1 ≤ 400 ∧ t + y2 ≤ 400 := ⟨Int.le_trans s2.2.2.2.1 hF4.2.2.1, Int.le_trans s2.2.2.2.2 hF4.2.2.2⟩
        have HBB := hide hb
        rw [hod] at et
        clear h hl s1 s2 hb ec hF4 hF hrest hx HP HB hev
        go_wp2
        exact ⟨⟨k + 1, p, q, r + y1, t + y2, by go_num, rfl, rfl, rfl, rfl, by omega, HBB.out, hs1.out, trivial⟩, by simp [intOf]; omega⟩
    · have hd : xs.drop k = [] := List.drop_of_length_le (by omega)
      have hb := HB.out
      rw [hd] at hb
      have HF := hide (show F = (p, q, r, t) from hb.symm)
      clear hb hd hF h hF4
      go_wp2
      go_returns
      exact ⟨by rw [HF.out], rfl⟩

end Go.Proofs.YtednobegombphaaDoor

/- The terms of a fraction: Euclid's steps in the program and in the reference. -/
import Derived.Test.YtednobegombphaaDoorNumD
import Derived.Test.YtednobegombphaaDoorInts
namespace Go.Proofs.YtednobegombphaaDoor
open Go.RowKit
set_option maxRecDepth 100000 in
theorem expand_any (a0 : Int) (b0 : Nat) (w : World) (h0 : b0 ≠ 0) (hb : b0 ≤ 1000000000000) (ha : -1000000000000 ≤ a0 ∧ a0 ≤ 1000000000000) :
    Calls Tryd.prog 45 #[.int .i64 a0, .int .i64 b0] w fun e w' => ∃ g c n, e = .returned (.slice (some ⟨g, 0, none⟩) n c) ∧ n = (terms a0 b0).length ∧ w.heap.size ≤ g ∧ Row w' g 2 1 n c (il (terms a0 b0)) ∧ Below w.heap.size w w' := by
  obtain ⟨i0, hi, hz0, hz1, hz2⟩ := info_parts info_i64
  go_enter Tryd.func45, Tryd.ntmps45
  go_wp2
  go_loopw [0, 1, 5] (fun a b v wr => ∃ (x : Int) (y : Nat) (L : List Int), a = .int .i64 x ∧ b = .int .i64 y ∧ L ++ terms x y = terms a0 b0 ∧ y ≤ b0 ∧ (-1000000000000 ≤ x ∧ x ≤ 1000000000000) ∧
    ((L = [] ∧ y ≠ 0 ∧ v = .slice none 0 0) ∨ ∃ g c, v = .slice (some ⟨g, 0, none⟩) L.length c ∧ w.heap.size ≤ g ∧ Row wr g 2 1 L.length c (il L)) ∧ Below w.heap.size w wr) (fun _ b _ _ => (intOf b).toNat)
  case atStart => exact ⟨a0, b0, [], rfl, rfl, rfl, Nat.le_refl _, ha, .inl ⟨rfl, h0, rfl⟩, Below.refl _ _⟩
  case round =>
    obtain ⟨x, y, L, rfl, rfl, hL, hy, hx, hv, hbel⟩ := hrel
    have HL := hide hL
    clear hL
    have sz := hbel.size
    by_cases hy0 : y = 0
    · subst hy0
      obtain ⟨_, h, _⟩ | ⟨g, c, rfl, hg, hrow⟩ := hv
      · exact absurd rfl h
      · have HW := hide hrow
        clear hrow
        have e := hide (show terms a0 b0 = L by rw [← HL.out, terms_nil, List.append_nil])
        go_wp2
        go_ret
        exact ⟨g, c, L.length, rfl, by rw [e.out], hg, by rw [e.out]; exact HW.out, hbel⟩
    · have hyZ : ¬ (y : Int) = 0 := by omega
      have hm := Int.mul_ediv_add_emod x y
      have hm1 := Int.emod_nonneg x (show (y : Int) ≠ 0 by omega)
      have hm2 := Int.emod_lt_of_pos x (show 0 < (y : Int) by omega)
      have ht := terms_cons x hy0
      have hr := rest_lt x hy0
      have hLl : (L ++ terms x y).length ≤ b0 := by rw [HL.out]; exact terms_len b0 a0
      have hl1 : L.length ≤ b0 := by rw [List.length_append] at hLl; omega
      have hL2 : (L ++ [x / y]) ++ terms y (x % (y : Int)).toNat = terms a0 b0 := by rw [← HL.out, ht]; simp
      have HL2 := hide hL2
      have HR := hide hr
      have hq := ediv_bd (n := x) (m := y) (by omega) 1000000000000 hx
      clear hL2 hr ht hLl
      rw [Int.mul_comm] at hm
      generalize hT : x / (y : Int) = t at *
      generalize hR : x % (y : Int) = r at *
      obtain ⟨p, hP⟩ : ∃ p, t * (y : Int) = p := ⟨_, rfl⟩
      rw [hP] at hm
      have hpr : x - p = r := by omega
      obtain ⟨_, h, rfl⟩ | ⟨g, c, rfl, hg, hrow⟩ := hv
      · rename_i hnil
        subst hnil
        go_wp2_with fail
        refine (floorDiv_any _ _ _ (by omega) (by omega) (by omega) (by omega)).mono ?_
        rintro e w1 ⟨rfl, rfl⟩
        rw [hT]
        go_wp2_with (at_builtin; refine wpList_append_lies _ rfl (.tmp 12) (.tmp 14) _ rfl 0 2 i0 _ 1 8 Tryd.underlying35 hi hz0 hz1 hz2 rfl (by omega) (.slice none 0 0) 0 [] (by rfl) (World.ownsRow_nil _ _ _ _) ⟨wr.heap.size, 0, none⟩ 1 1 (il [t]) (by rfl) (by rfl) (news_new (by simp)) (one_il _) (by omega) (by simp only [maxLen]; omega) (by omega) (Nat.zero_le _) (wr.heap.size + 1) (by simp) ?_; intro g1 c1 w1 hown1 hgrow1 hat1 hlt1)
        go_roundw
        case rel =>
          have hg1 : g1 = wr.heap.size + 1 := by rcases hat1 with h | h; · cases h
                                                 · exact h
          refine ⟨y, r.toNat, [t], rfl, by rw [HR.out.2], HL2.out, by omega, by omega, .inr ⟨g1, c1, rfl, by omega, (Row.of_own hown1).1⟩, ?_⟩
          exact (hbel.alloc (by omega) _).grown hgrow1 (by simp; omega) (fun k h => by cases h)
        case measure => simp [intOf]; omega
      · have hr0 := Row.own hrow (Nat.zero_le g)
        have HO := hide hr0
        have hcap := hrow.cap_
        clear hr0 hrow
        go_wp2_with fail
        refine (floorDiv_any _ _ _ (by omega) (by omega) (by omega) (by omega)).mono ?_
        rintro e w1 ⟨rfl, rfl⟩
        rw [hT]
        go_wp2_with (at_builtin; refine wpList_append_lies _ rfl (.tmp 12) (.tmp 14) _ rfl 0 2 i0 _ 1 8 Tryd.underlying35 hi hz0 hz1 hz2 rfl (by omega) (.slice (some ⟨g, 0, none⟩) L.length c) L.length (il L) (by rfl) (HO.out.alloc _) ⟨wr.heap.size, 0, none⟩ 1 1 (il [t]) (by rfl) (by rfl) (news_new (by simp)) (one_il _) (by omega) (by simp only [maxLen]; omega) (by omega) (Nat.zero_le _) (wr.heap.size + 1) (by simp) ?_; intro g1 c1 w1 hown1 hgrow1 hat1 hlt1)
        go_roundw
        case rel =>
          have hg1 : w.heap.size ≤ g1 := by
            rcases at_old hat1 with h | h <;> omega
          refine ⟨y, r.toNat, L ++ [t], rfl, by rw [HR.out.2], HL2.out, by omega, by omega, .inr ⟨g1, c1, by simp, by omega, ?_⟩, ?_⟩
          · have := (Row.of_own hown1).1
            rw [il_append]; simpa using this
          · exact (hbel.alloc (by omega) _).grown hgrow1 (by simp; omega) (fun k h => by simp [Value.ownBlock] at h; omega)
        case measure => simp [intOf]; omega
end Go.Proofs.YtednobegombphaaDoor

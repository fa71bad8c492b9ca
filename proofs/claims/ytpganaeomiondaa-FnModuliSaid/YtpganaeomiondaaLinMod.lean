/- The law on moduli: inverses and joined rests solve their equations; the greatest missing number is missing. -/
import Derived.Test.YtpganaeomiondaaLinM
import Derived.Deep.DeepCutAuto
namespace Go.Proofs.Ytpganaeomiondaa
open Go.RowKit

set_option maxRecDepth 100000 in
set_option maxHeartbeats 40000000 in
theorem law_Moduli (A : Option Addr) (n c : Nat) (xs : List Int) (w : World) (h : Rd w w.heap.size 1 A n (u8l xs)) (hn : n ≤ 9223372036854775807) (hx : ∀ x ∈ xs, 0 ≤ x ∧ x ≤ 255) :
    Calls Try.prog 12 #[.slice A n c] w fun e w' => e = .returned (.bool true) ∧ Below w.heap.size w w' := by
  by_cases hbig : 4096 < n
  · go_enter Try.func12, Try.ntmps12
    go_wp2_with fail
    refine (f6big_any A n c _ hn).mono ?_
    rintro e w1 ⟨rfl, rfl⟩
    go_wp2_with fail
    go_ret
    exact ⟨rfl, Below.refl _ _⟩
  · go_enter Try.func12, Try.ntmps12
    go_wp2_with fail
    refine (f6big_any A n c _ hn).mono ?_
    rintro e w1 ⟨rfl, rfl⟩
    go_wp2_with fail
    refine (drawSolveModulo_any A n c xs _ h hn hx).mono ?_
    rintro e w1 ⟨a, c1, m, rfl, b1⟩
    have B1 := b1
    obtain ⟨x, st, cd, hsm, P1⟩ := smo_facts a c1 m
    go_wp2_with fail
    refine (implSolveModulo_any _ _ _ _).mono ?_
    rw [hsm]
    rintro e w2 ⟨rfl, b2⟩
    have B2 := bchain B1 b2
    go_wp2_with fail
    refine (specSolveModulo_any _ _ _ _).mono ?_
    rw [hsm]
    rintro e w3 ⟨rfl, b3⟩
    have B3 := bchain B2 b3
    clear b1 b2 b3 B1 B2 hsm
    go_wp2_with fail
    refine (drawInverseModulo_any A n c xs _ ((h.below B3).more B3.size) hn hx).mono ?_
    rintro e w4 ⟨b, q, rfl, b4⟩
    have B4 := bchain B3 b4
    obtain ⟨y, one, hiv, P2⟩ := ivo_facts b q
    go_wp2_with fail
    refine (implInverseModulo_any _ _ _).mono ?_
    rw [hiv]
    rintro e w5 ⟨rfl, b5⟩
    have B5 := bchain B4 b5
    go_wp2_with fail
    refine (specInverseModulo_any _ _ _).mono ?_
    rw [hiv]
    rintro e w6 ⟨rfl, b6⟩
    have B6 := bchain B5 b6
    clear b4 b5 b6 B3 B4 B5 hiv
    go_wp2_with fail
    refine (drawJoinRests_any A n c xs _ ((h.below B6).more B6.size) hn hx).mono ?_
    rintro e w7 ⟨r, k, s, l, rfl, b7⟩
    have B7 := bchain B6 b7
    obtain ⟨z, al, three, hjo, P3⟩ := jro_facts r k s l
    go_wp2_with fail
    refine (implJoinRests_any _ _ _ _ _).mono ?_
    rw [hjo]
    rintro e w8 ⟨rfl, b8⟩
    have B8 := bchain B7 b8
    go_wp2_with fail
    refine (specJoinRests_any _ _ _ _ _).mono ?_
    rw [hjo]
    rintro e w9 ⟨rfl, b9⟩
    have B9 := bchain B8 b9
    clear b7 b8 b9 B6 B7 B8 hjo
    go_wp2_with fail
    refine (drawGreatestMissing_any A n c xs _ ((h.below B9).more B9.size) hn hx).mono ?_
    rintro e w10 ⟨d, f, rfl, b10⟩
    have B10 := bchain B9 b10
    have P4 := grm_facts d f
    have hG1 := implGreatestMissing_any d f
    have hG2 := specGreatestMissing_any d f
    generalize grm d f = most at *
    generalize grmC d f = five at *
    go_wp2_with fail
    refine (hG1 _).mono ?_
    rintro e w11 ⟨rfl, m1, rfl⟩
    go_wp2_with fail
    refine (hG2 _).mono ?_
    rintro e w12 ⟨rfl, m2, rfl⟩
    clear hG1 hG2
    have B11 := belowN B10 (m1 + m2)
    clear b10 B9 B10
    go_wp2_with fail
    refine (drawCountMissing_any A n c xs _ ((h.below B11).more B11.size) hn hx).mono ?_
    rintro e w13 ⟨d2, f2, rfl, b13⟩
    have B13 := bchain B11 b13
    have hC1 := implCountMissing_any d2 f2
    have hC2 := specCountMissing_any d2 f2
    generalize cnm d2 f2 = cm at *
    generalize miss d2 f2 = cmc at *
    go_wp2_with fail
    refine (hC1 _).mono ?_
    rintro e w14 ⟨rfl, m3, rfl⟩
    go_wp2_with fail
    refine (hC2 _).mono ?_
    rintro e w15 ⟨rfl, m4, rfl⟩
    clear hC1 hC2
    have B14 := belowN (belowN B13 m3) m4
    clear b13 B11 B13 h hx
    have Q1 : (¬ cd = 0) ∨ ∃ t p, cd = 0 ∧ ¬ m = 0 ∧ a.tmod m = t ∧ t * x = p ∧ (p - c1).tmod m = 0 ∧ 0 ≤ x ∧ x < st ∧ (1 ≤ m ∧ m ≤ 1000000) ∧ (-1000000 ≤ t ∧ t ≤ 1000000) ∧ (-1000000000000 ≤ p ∧ p ≤ 1000000000000) ∧ (-1000000000 ≤ c1 ∧ c1 ≤ 1000000000) := by
      by_cases g : cd = 0
      · obtain ⟨t, p, e1, e2, e3, e4, e5, e6, e7⟩ := P1 g
        exact .inr ⟨t, p, g, by omega, e1, e2, e3, e4, e5, e6, e7⟩
      · exact .inl g
    have Q2 : (¬ one = 0) ∨ ∃ t p, one = 0 ∧ ¬ q = 0 ∧ b.tmod q = t ∧ t * y = p ∧ (p - 1).tmod q = 0 ∧ (1 ≤ q ∧ q ≤ 1000000) ∧ (-1000000 ≤ t ∧ t ≤ 1000000) ∧ (-1000000000000 ≤ p ∧ p ≤ 1000000000000) := by
      by_cases g : one = 0
      · obtain ⟨t, p, e1, e2, e3, e4, e5, e6⟩ := P2 g
        exact .inr ⟨t, p, g, by omega, e1, e2, e3, e4, e5, e6⟩
      · exact .inl g
    have Q3 : (¬ three = 0) ∨ (three = 0 ∧ ¬ k = 0 ∧ ¬ l = 0 ∧ (z - r).tmod k = 0 ∧ (z - s).tmod l = 0 ∧ 0 ≤ z ∧ z < al ∧ (1 ≤ k ∧ k ≤ 1000000) ∧ (1 ≤ l ∧ l ≤ 1000000) ∧ z ≤ 1000000000000 ∧ (-1000000000 ≤ r ∧ r ≤ 1000000000) ∧ (-1000000000 ≤ s ∧ s ≤ 1000000000)) := by
      by_cases g : three = 0
      · obtain ⟨e1, e2, e3, e4, e5, e6, e7⟩ := P3 g
        exact .inr ⟨g, by omega, by omega, e1, e2, e3, e4, e5, e6, e7⟩
      · exact .inl g
    have Q4 : (¬ five = 0) ∨ (five = 0 ∧ 1000000 < most) ∨ (five = 0 ∧ most ≤ 1000000 ∧ 0 ≤ most ∧ ∃ t, 0 < t ∧ cno d f most = .tuple #[.int .i64 0, .int .i64 0] ∧ cno d f (most + 1) = .tuple #[.int .i64 t, .int .i64 0]) := by
      by_cases g : five = 0
      · by_cases g2 : most ≤ 1000000
        · obtain ⟨e1, ⟨t, e2, e3⟩, e4⟩ := P4 g g2
          exact .inr (.inr ⟨g, g2, e4, t, e2, e1, e3⟩)
        · exact .inr (.inl ⟨g, by omega⟩)
      · exact .inl g
    have hN1 := implCountNatural_any d f most
    have hN2 := implCountNatural_any d f (most + 1)
    clear P1 P2 P3 P4
    obtain ⟨W, hW⟩ : ∃ W, (w13.drewN m3).drewN m4 = W := ⟨_, rfl⟩
    rw [hW] at B14 ⊢
    go_upto_region 18 with fail
    go_cut [201] (fun v wc => v = .bool false ∧ wc = W)
    case first => as_aux_lemma =>
      go_wp2_with fail
      go_meet
      case rel => exact ⟨rfl, rfl⟩
    case rest =>
      obtain ⟨rfl, rfl⟩ := hcut
      go_upto_region 20 with fail
      go_cut [224] (fun v w' => v = .bool false ∧ w' = wc)
      case first => as_aux_lemma =>
        rcases Q1 with g1 | ⟨t1, p1, rfl, x1, x2, x3, x4, x5, x6, x7, x8, x9, x10⟩
        · go_wp2_with fail
          go_meet
          case rel => exact ⟨rfl, rfl⟩
        · have d1 : decide (x < 0) = false := decide_eq_false (by omega)
          have d2 : decide (st ≤ x) = false := decide_eq_false (by omega)
          go_wp2_with fail
          go_meet
          case rel => exact ⟨rfl, rfl⟩
      case rest =>
        obtain ⟨rfl, rfl⟩ := hcut
        clear Q1
        go_upto_region 22 with fail
        go_cut [237] (fun v w' => v = .bool false ∧ w' = wc)
        case first => as_aux_lemma =>
          rcases Q2 with g2 | ⟨t2, p2, rfl, y1, y2, y3, y4, y5, y6, y7⟩
          all_goals
            go_wp2_with fail
            go_meet
            case rel => exact ⟨rfl, rfl⟩
        case rest =>
          obtain ⟨rfl, rfl⟩ := hcut
          clear Q2
          go_upto_region 24 with fail
          go_cut [264] (fun v w' => v = .bool false ∧ w' = wc)
          case first => as_aux_lemma =>
            rcases Q3 with g3 | ⟨rfl, z1, z2, z3, z4, z5, z6, z7, z8, z9, z10, z11⟩
            · go_wp2_with fail
              go_meet
              case rel => exact ⟨rfl, rfl⟩
            · have d1 : decide (z < 0) = false := decide_eq_false (by omega)
              have d2 : decide (al ≤ z) = false := decide_eq_false (by omega)
              go_wp2_with fail
              go_meet
              case rel => exact ⟨rfl, rfl⟩
          case rest =>
            obtain ⟨rfl, rfl⟩ := hcut
            clear Q3
            rcases Q4 with g4 | ⟨rfl, g4⟩ | ⟨rfl, g4, g5, t4, g6, g7, g8⟩
            · as_aux_lemma =>
              go_wp2_with fail
              go_ret
              exact ⟨rfl, B14⟩
            · as_aux_lemma =>
              go_wp2_with fail
              go_ret
              exact ⟨rfl, B14⟩
            · as_aux_lemma =>
              rw [g7] at hN1
              rw [g8] at hN2
              clear g7 g8
              go_wp2_with fail
              refine (hN1 _).mono ?_
              rintro e w16 ⟨rfl, b16⟩
              go_wp2_with fail
              refine (hN2 _).mono ?_
              rintro e w17 ⟨rfl, b17⟩
              go_wp2_with fail
              go_ret
              exact ⟨rfl, bchain (bchain B14 b16) b17⟩

theorem walk_Moduli (A : Option Addr) (n c : Nat) (xs : List Int) (hw : ∀ z ∈ xs, (Lit.int .u8 z).wf = true) (w : World) (h : Rd w w.heap.size 1 A n (xs.map (Value.int .u8))) (hn : n ≤ 9223372036854775807) :
    Calls Try.prog 12 #[.slice A n c] w fun e w' => e = .returned (.bool true) ∧ Below w.heap.size w w' :=
  law_Moduli A n c xs w h hn (fun x hx => by
    have := hw x hx
    simp only [Lit.wf, Bool.and_eq_true, decide_eq_true_eq] at this
    exact this)

end Go.Proofs.Ytpganaeomiondaa

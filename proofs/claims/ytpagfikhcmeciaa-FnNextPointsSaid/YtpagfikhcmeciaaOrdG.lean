/- FallsInto: the program's and the reference's walks. -/
import Derived.Test.YtpagfikhcmeciaaOrdF
namespace Go.Proofs.Ytpagfikhcmeciaa
open Go.RowKit Go.Sort

section
variable {p q : Int} {c : Nat}
theorem falls_pos (hq : 0 < q) (hg : Int.gcd p q = 1) (hc : 0 < c) (hcq : (c : Int) < q) : 0 < insK (rst p q) (ord (rst p q) c) c c := by
  apply Nat.pos_of_ne_zero
  intro h
  have := insK_hi (rst p q) (ord (rst p q) c) c c 0 (by omega) hc
  rw [ord_zero hq hg hc (by omega), rst_zero] at this
  have := (rst_bd p hq (c : Int)).1
  omega
theorem falls_iff (hq : 0 < q) (hg : Int.gcd p q = 1) (hcq : (c : Int) < q) {j : Nat} (hj : j < c) : rst p q ((ord (rst p q) c).getD j 0) < rst p q c ↔ j < insK (rst p q) (ord (rst p q) c) c c := by
  have hhi := insK_hi (rst p q) (ord (rst p q) c) c c j
  have hlo := insK_lo (rst p q) (ord (rst p q) c) c c
  have hle := insK_le (rst p q) (ord (rst p q) c) c c
  generalize insK (rst p q) (ord (rst p q) c) c c = K at *
  constructor
  · intro h
    apply Nat.lt_of_not_le
    intro hk
    have := hhi hk hj
    omega
  · intro h
    have h1 := hlo (by omega)
    have h2 : rst p q ((ord (rst p q) c).getD j 0) ≤ rst p q ((ord (rst p q) c).getD (K - 1) 0) := by
      rcases (show j = K - 1 ∨ j < K - 1 by omega) with h | h
      · subst h; exact Int.le_refl _
      · have := ord_lt hq hg (n := c) (by omega) h (by omega); omega
    have h3 := ord_mem (n := c) hj (rst p q)
    have h4 : rst p q ((ord (rst p q) c).getD j 0) ≠ rst p q c := by
      intro h
      have := rst_inj hq hg h3.1 (by omega) (by omega) hcq h
      omega
    omega
theorem falls_next (hj : insK (rst p q) (ord (rst p q) c) c c ≤ c) (h0 : 0 < insK (rst p q) (ord (rst p q) c) c c) :
    (ord (rst p q) (c + 1)).getD (insK (rst p q) (ord (rst p q) c) c c) 0 = c ∧ (ord (rst p q) (c + 1)).getD (insK (rst p q) (ord (rst p q) c) c c - 1) 0 = (ord (rst p q) c).getD (insK (rst p q) (ord (rst p q) c) c c - 1) 0 := by
  have e : ord (rst p q) (c + 1) = (ord (rst p q) c).take (insK (rst p q) (ord (rst p q) c) c c) ++ (c : Int) :: (ord (rst p q) c).drop (insK (rst p q) (ord (rst p q) c) c c) := by
    conv => lhs; rw [ord, ord_len]
  rw [e]
  have hl := ord_len (rst p q) c
  generalize insK (rst p q) (ord (rst p q) c) c c = K at *
  generalize ord (rst p q) c = O at *
  constructor
  · rw [List.getD_eq_getElem?_getD, List.getElem?_append_right (by rw [List.length_take]; omega), List.length_take]
    have : K - min K O.length = 0 := by omega
    rw [this]; simp
  · rw [List.getD_eq_getElem?_getD, List.getElem?_append_left (by rw [List.length_take]; omega), List.getElem?_take, if_pos (by omega), ← List.getD_eq_getElem?_getD]
end

set_option maxRecDepth 100000 in
theorem implFallsInto_any (p q c : Int) (w : World) :
    Calls Try.prog 22 #[.agg #[.int .i64 p, .int .i64 q], .int .i64 c] w fun e w' => e = .returned (.tuple #[.int .i64 (fiv p q c), .int .i64 (fic p q c)]) ∧ Below w.heap.size w w' := by
  have hC := checkPoints_any p q c
  by_cases h0 : gpc p q c = 0
  · obtain ⟨ho, hc, hcq⟩ := gpc_ok h0
    obtain ⟨o1, o2, o3⟩ := okF_iff.1 ho
    by_cases h2 : c = q
    · have e0 : fic p q c = 3 := by unfold fic; rw [if_pos h0, if_pos h2]
      have HR := hide (show fiv p q c = 0 ∧ fic p q c = 3 by unfold fiv; rw [e0]; exact ⟨rfl, rfl⟩)
      have hc1 : (c == q) = true := by rw [h2]; exact beq_self_eq_true q
      rw [h0] at hC
      have H2 := hide h2
      clear e0 h2
      go_enter Try.func22, Try.ntmps22
      go_wp2_with fail
      refine (hC _).mono ?_
      rintro e w1 ⟨rfl, hb1⟩
      obtain ⟨a1, _, k3, _⟩ := (Blk.new w 25 #[.int .i64 p, .int .i64 q]).after hb1 (by simp)
      have x0 := a1 0
      have x1 := a1 1
      have hB := bstep (show Below w.heap.size w _ by go_grown) hb1 (by simp)
      clear a1 hb1
      go_wp2_with fail
      go_returns
      exact ⟨by rw [HR.out.1, HR.out.2]; rfl, hB⟩
    · obtain ⟨m, rfl⟩ : ∃ m : Nat, c = m := ⟨c.toNat, by omega⟩
      have e0 : fic p q m = 0 := by unfold fic; rw [if_pos h0, if_neg h2]
      have eV : fiv p q m = (ord (rst p q) m).getD (insK (rst p q) (ord (rst p q) m) m m - 1) 0 := by unfold fiv fip; rw [e0, if_pos rfl, Int.toNat_natCast]
      have hK1 := insK_le (rst p q) (ord (rst p q) m) m m
      have hK0 := falls_pos (p := p) (q := q) (c := m) (by omega) o3 (by omega) (by omega)
      obtain ⟨hK2, hK3⟩ := falls_next hK1 hK0
      have hL := fun w => implOrd_any p q (m + 1) w ho ⟨by omega, by omega⟩ (by omega)
      have hl := ord_len (rst p q) (m + 1)
      have hnd := ord_nodup (rst p q) (m + 1)
      rw [← hK3] at eV
      have HR := hide (show fiv p q m = _ ∧ fic p q m = 0 from ⟨eV, e0⟩)
      clear eV e0 hK3
      generalize ord (rst p q) (m + 1) = O at *
      generalize insK (rst p q) (ord (rst p q) m) m m = K at *
      rw [h0] at hC
      obtain ⟨t, rfl⟩ : ∃ t, K = t + 1 := ⟨K - 1, by omega⟩
      have hc1 : ((m : Int) == q) = false := beq_eq_false_iff_ne.2 h2
      have H2 := hide h2
      have s1 : IntKind.i64.wrap ((m : Int) + 1) = (m : Int) + 1 := IntWalk.i64_in _ (by omega)
      have s2 : IntKind.i64.wrap (t : Int) = (t : Int) := IntWalk.i64_in _ (by omega)
      clear h2 ho hK0
      go_enter Try.func22, Try.ntmps22
      go_wp2_with fail
      refine (hC _).mono ?_
      rintro e w1 ⟨rfl, hb1⟩
      obtain ⟨a1, _, k3, _⟩ := (Blk.new w 25 #[.int .i64 p, .int .i64 q]).after hb1 (by simp)
      have x0 := a1 0
      have x1 := a1 1
      have hB := bstep (show Below w.heap.size w _ by go_grown) hb1 (by simp)
      clear a1 hb1
      go_wp2_with fail
      refine (hL _).mono ?_
      rintro e w2 ⟨g, cap, rfl, hg, hr, hb2⟩
      have hB2 := bstep hB hb2 hB.size
      have y1 := hr.cell (il_getD (zs := O) (i := t) (by omega))
      have hX := index_any (some ⟨g, 0, none⟩) (m + 1) cap O m w2 (by omega) hl hr.rd
      go_wp2_with fail
      refine hX.mono ?_
      rintro e w3 ⟨r, rfl, hr3, rfl⟩
      have hri : r = (t : Int) + 1 := by
        rcases hr3 with ⟨_, hno⟩ | ⟨j, hj, rfl, hjk⟩
        · exact absurd (by rw [← hK2]; exact getD_mem (by omega)) hno
        · have := idx_at hnd hj hjk
          have := idx_at hnd (show t + 1 < O.length by omega) hK2
          omega
      subst hri
      rw [show t + 1 - 1 = t from rfl] at HR
      generalize O.getD t 0 = v at *
      have n1 : (t : Int) < (m : Int) + 1 := by omega
      have n2 : t < m + 1 := by omega
      clear hr hX hr3 hL hnd hl hK2
      go_wp2_with fail
      go_returns
      exact ⟨by rw [HR.out.1, HR.out.2]; rfl, hB2⟩
  · have HR := hide (show fiv p q c = 0 ∧ fic p q c = gpc p q c by unfold fiv fic; rw [if_neg h0, if_neg h0]; exact ⟨rfl, rfl⟩)
    generalize gpc p q c = d at *
    have hb : (d != 0) = true := by simp [h0]
    go_enter Try.func22, Try.ntmps22
    go_wp2_with fail
    refine (hC _).mono ?_
    rintro e w1 ⟨rfl, hb1⟩
    have hB := bstep (show Below w.heap.size w _ by go_grown) hb1 (by simp)
    go_wp2_with fail
    go_returns
    exact ⟨by rw [HR.out.1, HR.out.2]; rfl, hB⟩

set_option maxHeartbeats 1000000 in
set_option maxRecDepth 100000 in
theorem specFallsInto_any (p q c : Int) (w : World) :
    Calls Try.prog 23 #[.agg #[.int .i64 p, .int .i64 q], .int .i64 c] w fun e w' => e = .returned (.tuple #[.int .i64 (fiv p q c), .int .i64 (fic p q c)]) ∧ Below w.heap.size w w' := by
  have hC := l20Code_any p q c
  have mixed : Try.prog.follows .mixedOrders = true := by kernel_rfl
  by_cases h0 : gpc p q c = 0
  · obtain ⟨ho, hc, hcq⟩ := gpc_ok h0
    obtain ⟨o1, o2, o3⟩ := okF_iff.1 ho
    by_cases h2 : c = q
    · have e0 : fic p q c = 3 := by unfold fic; rw [if_pos h0, if_pos h2]
      have HR := hide (show fiv p q c = 0 ∧ fic p q c = 3 by unfold fiv; rw [e0]; exact ⟨rfl, rfl⟩)
      have hc1 : (c == q) = true := by rw [h2]; exact beq_self_eq_true q
      rw [h0] at hC
      have H2 := hide h2
      clear e0 h2
      go_enter Try.func23, Try.ntmps23
      go_wp2_with fail
      refine (hC _).mono ?_
      rintro e w1 ⟨rfl, hb1⟩
      obtain ⟨a1, _, k3, _⟩ := (Blk.new w 25 #[.int .i64 p, .int .i64 q]).after hb1 (by simp)
      have x0 := a1 0
      have x1 := a1 1
      have hB := bstep (show Below w.heap.size w _ by go_grown) hb1 (by simp)
      clear a1 hb1
      go_wp2_with fail
      go_returns
      exact ⟨by rw [HR.out.1, HR.out.2]; rfl, hB⟩
    · obtain ⟨m, rfl⟩ : ∃ m : Nat, c = m := ⟨c.toNat, by omega⟩
      have e0 : fic p q m = 0 := by unfold fic; rw [if_pos h0, if_neg h2]
      have eV : fiv p q m = (ord (rst p q) m).getD (insK (rst p q) (ord (rst p q) m) m m - 1) 0 := by unfold fiv fip; rw [e0, if_pos rfl, Int.toNat_natCast]
      have hK1 := insK_le (rst p q) (ord (rst p q) m) m m
      have hK0 := falls_pos (p := p) (q := q) (c := m) (by omega) o3 (by omega) (by omega)
      have hF := fun (j : Nat) (hj : j < m) => falls_iff (p := p) (q := q) (c := m) (by omega) o3 (by omega) hj
      have hM := fun (j : Nat) (hj : j < m) => ord_mem (n := m) hj (rst p q)
      have hR := fun x w' hx => l20Rest_any p q x w' hx o1
      have hL := fun w => specOrd_any p q m w ho (by omega)
      have hl := ord_len (rst p q) m
      have HR := hide (show fiv p q m = _ ∧ fic p q m = 0 from ⟨eV, e0⟩)
      clear eV e0
      generalize ord (rst p q) m = O at *
      generalize insK (rst p q) O m m = K at *
      rw [h0] at hC
      have hc1 : ((m : Int) == q) = false := beq_eq_false_iff_ne.2 h2
      have H2 := hide h2
      have HF := hide hF
      have HM := hide hM
      clear h2 ho hF hM
      go_enter Try.func23, Try.ntmps23
      go_wp2_with fail
      refine (hC _).mono ?_
      rintro e w1 ⟨rfl, hb1⟩
      obtain ⟨a1, _, k3, HB⟩ := (Blk.new w 25 #[.int .i64 p, .int .i64 q]).after hb1 (by simp)
      have x0 := a1 0
      have x1 := a1 1
      have hB := bstep (show Below w.heap.size w _ by go_grown) hb1 (by simp)
      clear a1 hb1
      go_wp2_with fail
      refine (hL _).mono ?_
      rintro e w2 ⟨g, cap, rfl, hg, hr, hb2⟩
      have hB2 := bstep hB hb2 hB.size
      have hbx := HB.out.below_ hb2 k3
      have y1 := hr.cell (il_getD (zs := O) (i := 0) (by omega))
      have HB2 := hide hbx
      have HR2 := hide hr
      have hglt := hr.lt
      have m0 : (0 : Int) < (m : Int) := by omega
      have s2 := hB2.size
      clear hr hbx x0 x1 hL
      go_wp2_with fail
      go_loopw [8, 9] (fun v kk wr => ∃ j : Nat, kk = .int .i64 j ∧ j ≤ m ∧ v = .int .i64 (O.getD (min j K - 1) 0) ∧ Below w2.heap.size w2 wr) (fun _ kk _ => m - (intOf kk).toNat)
      case atStart => exact ⟨0, rfl, by omega, by simp, Below.refl _ _⟩
      case round =>
        obtain ⟨j, rfl, hj, rfl, hbel⟩ := hrel
        by_cases hlt : j < m
        · obtain ⟨a1, _, a3, _⟩ := HB2.out.after hbel (by omega)
          have l1 := cell_grown (a := ⟨w.heap.size, 0, none⟩) a3 (a1 0)
          have l2 := cell_grown (a := ⟨w.heap.size, 1, none⟩) a3 (a1 1)
          have hgi := (HR2.out.below hbel hglt).cell (il_getD (zs := O) (i := j) (by omega))
          have swr := hbel.size
          have l3 := cell_grown (a := ⟨g, j, none⟩) (show g < wr.heap.size by omega) hgi
          have hmj := HM.out j hlt
          have c1 := fun w' => hR (O.getD j 0) w' (by omega)
          have c2 := fun w' => hR (m : Int) w' (by omega)
          have hf := HF.out j hlt
          generalize rst p q (O.getD j 0) = u at *
          generalize rst p q (m : Int) = v at *
          have i1 : (j : Int) < (m : Int) := by omega
          clear a1 a3 hmj y1
          by_cases hjk : j < K
          · have hd : decide (u < v) = true := decide_eq_true (hf.2 hjk)
            have hnew : O.getD (min (j + 1) K - 1) 0 = O.getD j 0 := by rw [show min (j + 1) K - 1 = j by omega]
            have HN := hide hnew
            generalize O.getD j 0 = x at *
            clear hf hnew
            go_wp2_with fail
            go_quiet_grown (first | (with_reducible exact Calls.grown_of (c1 _)) | (with_reducible exact Calls.grown_of (c2 _)))
            have hw5 := hbel.trans ((grow_below wr nq osq).mono hbel.size)
            have l4 := l3 nq osq
            generalize grow (wr.drewN nq) osq = w5 at *
            clear l1 l2 l3 c1 c2
            go_wp2_with fail
            go_roundw
            case rel => exact ⟨j + 1, by go_num, by omega, by rw [HN.out], hw5⟩
            case measure => simp [intOf]; omega
          · have hd : decide (u < v) = false := decide_eq_false (fun h => hjk (hf.1 h))
            have hnew : O.getD (min (j + 1) K - 1) 0 = O.getD (min j K - 1) 0 := by rw [show min (j + 1) K - 1 = min j K - 1 by omega]
            generalize O.getD (min j K - 1) 0 = y at *
            have HN := hide hnew
            generalize O.getD j 0 = x at *
            clear hf hnew
            go_wp2_with fail
            go_quiet_grown (first | (with_reducible exact Calls.grown_of (c1 _)) | (with_reducible exact Calls.grown_of (c2 _)))
            have hw5 := hbel.trans ((grow_below wr nq osq).mono hbel.size)
            generalize grow (wr.drewN nq) osq = w5 at *
            clear l1 l2 l3 c1 c2
            go_wp2_with fail
            go_roundw
            case rel => exact ⟨j + 1, by go_num, by omega, by rw [HN.out], hw5⟩
            case measure => simp [intOf]; omega
        · have hjm : j = m := by omega
          subst hjm
          have e1 : min j K = K := by omega
          rw [e1]
          generalize O.getD (K - 1) 0 = x at *
          go_wp2_with fail
          go_returns
          exact ⟨by rw [HR.out.1, HR.out.2]; rfl, bstep hB2 hbel s2⟩
  · have HR := hide (show fiv p q c = 0 ∧ fic p q c = gpc p q c by unfold fiv fic; rw [if_neg h0, if_neg h0]; exact ⟨rfl, rfl⟩)
    generalize gpc p q c = d at *
    have hb : (d != 0) = true := by simp [h0]
    have hb' : (d == 0) = false := by simp [h0]
    go_enter Try.func23, Try.ntmps23
    go_wp2_with fail
    refine (hC _).mono ?_
    rintro e w1 ⟨rfl, hb1⟩
    have hB := bstep (show Below w.heap.size w _ by go_grown) hb1 (by simp)
    go_wp2_with fail
    go_returns
    exact ⟨by rw [HR.out.1, HR.out.2]; rfl, hB⟩

end Go.Proofs.Ytpagfikhcmeciaa

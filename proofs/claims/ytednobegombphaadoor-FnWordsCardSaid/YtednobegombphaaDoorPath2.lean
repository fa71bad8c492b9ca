/- The path to a fraction and its bounds in the reference. -/
import Derived.Test.YtednobegombphaaDoorPath
namespace Go.Proofs.YtednobegombphaaDoor
open Go.RowKit

set_option maxRecDepth 100000 in
theorem l05Path_any (a b : Nat) (w : World) (ha : 0 < a) (hb : b ≠ 0) (hg : Nat.gcd a b = 1) (ha2 : a ≤ 400) (hb2 : b ≤ 400) :
    Calls Tryd.prog 42 #[.agg #[.int .i64 a, .int .i64 b]] w fun e w' => ∃ v, e = .returned v ∧ Lst w' w.heap.size v (pth a b) ∧ Below w.heap.size w w' := by
  obtain ⟨k, x, hk, hk4, hx, hst, ⟨x0, x1⟩, hcase⟩ := last_facts ha hb hg ha2 hb2
  have hE := fun w => l03Terms_any a b w (by omega) (by omega)
  rw [hk] at hE
  have HX := hide hx
  have HST := hide hst
  have hdl := dec_len (terms (a : Int) b)
  rw [hk] at hdl
  clear hk hx hst
  go_enter Tryd.func42, Tryd.ntmps42
  go_wp2_with fail
  refine (hE _).mono ?_
  rintro e w1 ⟨g, c, n, rfl, rfl, hg1, hr, hb1⟩
  have hg2 : w.heap.size ≤ g := by simp at hg1; omega
  have hB := bstep (show Below w.heap.size w _ by go_grown) hb1 (by simp)
  have hc := hr.cell HX.out
  have hf := hr.frozen k
  have hr2 := hr.store k (.int .i64 (x - 1))
  rw [HST.out] at hr2
  have hc2 := hr2.cell (j := k) (u := .int .i64 (x - 1)) (by rw [← HST.out, List.getElem?_set_self (by have := (List.getElem?_eq_some_iff.1 HX.out).1; exact this)])
  have hkn : (k : Int) + 1 - 1 = k := by omega
  have H2 := hide hr2
  clear hb1 hr hr2 hg1 hE
  rcases hcase with ⟨rfl, rfl, hp⟩ | ⟨hx2, hp⟩
  · have HP := hide hp
    clear hp
    go_wp2_with fail
    go_ret
    exact ⟨_, rfl, by rw [HP.out]; exact Lst.of_row (Row.lit (n := 0) (cs := #[]) (by simp) rfl (by simp [maxLen])) hB.size (by omega), (hB.setCell hg2 _).alloc (by simpa using hB.size) _⟩
  · have HP := hide hp
    clear hp
    have hxb : ((x - 1) == 0) = false := beq_eq_false_iff_ne.2 (by omega)
    go_wp2_with fail
    go_ret
    exact ⟨_, rfl, by rw [HP.out]; exact Lst.of_row H2.out hg2 (by omega), hB.setCell hg2 _⟩


theorem cell_far {w : World} {p : Addr} {b i : Nat} {u : Value} (h : b ≠ p.block) : (w.setCell p u).cell? ⟨b, i, none⟩ = w.cell? ⟨b, i, none⟩ := by
  have := Below.heap_setCell w p u b h
  simp [World.cell?, this]

set_option maxRecDepth 100000 in
set_option maxHeartbeats 1000000 in
theorem l05Bounds_any (A : Option Addr) (n c : Nat) (xs : List Int) (F : Int × Int × Int × Int) (w : World) (h : Rd w w.heap.size 1 A n (il xs)) (hn : n ≤ 1000000000) (hx : ∀ m ∈ xs, 0 ≤ m) (hF : bnd xs true (0, 1, 1, 0) = F) (hF4 : le4 F (400, 400, 400, 400)) :
    Calls Tryd.prog 41 #[.slice A n c] w fun e w' => e = .returned (.agg #[.int .i64 F.1, .int .i64 F.2.1, .int .i64 F.2.2.1, .int .i64 F.2.2.2]) ∧ Below w.heap.size w w' := by
  have hl : xs.length = n := by have := h.1; rw [il_len] at this; omega
  go_enter Tryd.func41, Tryd.ntmps41
  go_wp2
  go_loopw [4] (fun i wr => ∃ k : Nat, ∃ p q r t : Int, i = .int .i64 k ∧ k ≤ n ∧ bnd (xs.drop k) (k % 2 == 0) (p, q, r, t) = F ∧ pos4 (p, q, r, t) ∧ Blk wr (w.heap.size + 1) 54 #[.int .i64 p, .int .i64 q, .int .i64 r, .int .i64 t] ∧ Blk wr w.heap.size 54 #[.int .i64 0, .int .i64 0, .int .i64 0, .int .i64 0] ∧ Below w.heap.size w wr) (fun i _ => n - (intOf i).toNat)
  case atStart => exact ⟨0, 0, 1, 1, 0, rfl, by omega, hF, by unfold pos4; decide, Blk.newAt (by simp), (Blk.new w _ _).alloc _, by go_grown⟩
  case round =>
    obtain ⟨k, p, q, r, t, rfl, hk, hb, hp, hbs, hbr, hbel⟩ := hrel
    have HB := hide hb
    have HP := hide hp
    clear hb hp
    by_cases hlt : k < n
    · obtain ⟨b, o, rfl, hbB, e1⟩ := (h.below hbel).cell hlt
      rw [il_at (by omega)] at e1
      have hb := HB.out
      rw [drop_at (show k < xs.length by omega)] at hb
      have hm := hx xs[k] (List.getElem_mem _)
      have hrest : ∀ m ∈ xs.drop (k + 1), 0 ≤ m := fun m hm => hx m (List.mem_of_mem_drop hm)
      generalize xs[k]'(by omega) = m at *
      unfold bnd at hb
      have s1 := bst_le (ev := k % 2 == 0) hm HP.out
      have s2 := bnd_le (ev := !(k % 2 == 0)) hrest s1.1
      rw [hb] at s2
      have hpar : (!(k % 2 == 0)) = ((k + 1) % 2 == 0) := by
        rcases Nat.mod_two_eq_zero_or_one k with h | h
        · rw [h]; have : (k + 1) % 2 = 1 := by omega
          rw [this]; rfl
        · rw [h]; have : (k + 1) % 2 = 0 := by omega
          rw [this]; rfl
      rw [hpar] at hb
      have HPO := HP.out
      unfold pos4 at HPO
      obtain ⟨n1, n2, n3, n4⟩ := HPO
      simp only at n1 n2 n3 n4
      have et : (k : Int).tmod 2 = ((k % 2 : Nat) : Int) := by rw [Int.tmod_eq_emod_of_nonneg (by omega)]; simp
      unfold le4 at s2 hF4
      have hne : b ≠ w.heap.size + 1 := by omega
      have hkk : (k : Int) < (n : Int) := by omega
      obtain ⟨a1, a2, a3, _⟩ := hbs.after (Below.refl _ _) hbs.lt
      have x0 := a1 0
      have x1 := a1 1
      have x2 := a1 2
      have x3 := a1 3
      have f0 := a2 0
      have f1 := a2 1
      have f2 := a2 2
      have f3 := a2 3
      have HS := hide hbs
      have HR := hide hbr
      by_cases hev : k % 2 = 0
      · have c1 : ((k % 2 : Nat) == 0) = true := by simp [hev]
        rw [c1] at hb s1 s2
        have ec : bst true m (p, q, r, t) = (p + m * r, q + m * t, r, t) := rfl
        rw [ec] at hb s1 s2
        obtain ⟨y1, hy1⟩ : ∃ y, m * r = y := ⟨_, rfl⟩
        obtain ⟨y2, hy2⟩ : ∃ y, m * t = y := ⟨_, rfl⟩
        have z1 := Int.mul_nonneg hm n3
        have z2 := Int.mul_nonneg hm n4
        rw [hy1] at hb s1 s2 z1
        rw [hy2] at hb s1 s2 z2
        have hs1 := hide s1.1
        have bb : p + y1 ≤ 400 ∧ q + y2 ≤ 400 := ⟨Int.le_trans s2.2.1 hF4.1, Int.le_trans s2.2.2.1 hF4.2.1⟩
        have HBB := hide hb
        rw [hev] at et
        clear h hl s1 s2 hb ec hF4 hF hrest hx HP HB hbs hbr a1 a2
        have w1 : IntKind.i64.wrap y1 = y1 := IntWalk.i64_in _ (by omega)
        have w2 : IntKind.i64.wrap y2 = y2 := IntWalk.i64_in _ (by omega)
        have w3 : IntKind.i64.wrap (p + y1) = p + y1 := IntWalk.i64_in _ (by omega)
        have w4 : IntKind.i64.wrap (q + y2) = q + y2 := IntWalk.i64_in _ (by omega)
        go_wp2_with fail
        go_still_tail 11, (by kernel_rfl)
        change wpList _ _ _ _ _ wr.drew
        go_wp2_with fail
        obtain ⟨W1, hW1⟩ : ∃ W, (wr.setCell ⟨w.heap.size + 1, 0, none⟩ (.int .i64 (p + y1))).drew = W := ⟨_, rfl⟩
        have kS : Blk W1 (w.heap.size + 1) 54 #[.int .i64 (p + y1), .int .i64 q, .int .i64 r, .int .i64 t] := by rw [← hW1]; exact HS.out.set_ 0 (.int .i64 (p + y1))
        have kR : Blk W1 w.heap.size 54 #[.int .i64 0, .int .i64 0, .int .i64 0, .int .i64 0] := by rw [← hW1]; exact HR.out.far (by simp) _
        have kB : Below w.heap.size w W1 := by rw [← hW1]; exact (hbel.setCell (by simp) _).drew
        have kE : W1.cell? ⟨b, o + k, none⟩ = some (.int .i64 m) := by rw [← hW1]; exact (cell_far hne).trans e1
        rw [hW1]
        clear x0 x1 x2 x3 f0 f1 f2 f3 HS HR hW1 hbel e1
        obtain ⟨a1, a2, a3, _⟩ := kS.after (Below.refl _ _) kS.lt
        have x0 := a1 0
        have x1 := a1 1
        have x2 := a1 2
        have x3 := a1 3
        have f0 := a2 0
        have f1 := a2 1
        have f2 := a2 2
        have f3 := a2 3
        have HS := hide kS
        have HR := hide kR
        clear kS kR a1 a2
        go_still_tail 11, (by kernel_rfl)
        change wpList _ _ _ _ _ W1.drew
        go_wp2_with fail
        refine ⟨⟨k + 1, p + y1, q + y2, r, t, by go_num, by omega, HBB.out, hs1.out, ?_, ?_, ?_⟩, by simp [intOf]; omega⟩
        · exact HS.out.set_ 1 (.int .i64 (q + y2))
        · exact HR.out.far (by simp) _
        · exact (kB.setCell (by simp) _).drew
      · have hod : k % 2 = 1 := by omega
        have c1 : ((k % 2 : Nat) == 0) = false := by simp [hod]
        rw [c1] at hb s1 s2
        have ec : bst false m (p, q, r, t) = (p, q, r + m * p, t + m * q) := rfl
        rw [ec] at hb s1 s2
        obtain ⟨y1, hy1⟩ : ∃ y, m * p = y := ⟨_, rfl⟩
        obtain ⟨y2, hy2⟩ : ∃ y, m * q = y := ⟨_, rfl⟩
        have z1 := Int.mul_nonneg hm n1
        have z2 := Int.mul_nonneg hm n2
        rw [hy1] at hb s1 s2 z1
        rw [hy2] at hb s1 s2 z2
        have hs1 := hide s1.1
        have bb : r + y1 ≤ 400 ∧ t + y2 ≤ 400 := ⟨Int.le_trans s2.2.2.2.1 hF4.2.2.1, Int.le_trans s2.2.2.2.2 hF4.2.2.2⟩
        have HBB := hide hb
        rw [hod] at et
        clear h hl s1 s2 hb ec hF4 hF hrest hx HP HB hbs hbr a1 a2 hev
        have w1 : IntKind.i64.wrap y1 = y1 := IntWalk.i64_in _ (by omega)
        have w2 : IntKind.i64.wrap y2 = y2 := IntWalk.i64_in _ (by omega)
        have w3 : IntKind.i64.wrap (r + y1) = r + y1 := IntWalk.i64_in _ (by omega)
        have w4 : IntKind.i64.wrap (t + y2) = t + y2 := IntWalk.i64_in _ (by omega)
        go_wp2_with fail
        go_still_tail 11, (by kernel_rfl)
        change wpList _ _ _ _ _ wr.drew
        go_wp2_with fail
        obtain ⟨W1, hW1⟩ : ∃ W, (wr.setCell ⟨w.heap.size + 1, 2, none⟩ (.int .i64 (r + y1))).drew = W := ⟨_, rfl⟩
        have kS : Blk W1 (w.heap.size + 1) 54 #[.int .i64 p, .int .i64 q, .int .i64 (r + y1), .int .i64 t] := by rw [← hW1]; exact HS.out.set_ 2 (.int .i64 (r + y1))
        have kR : Blk W1 w.heap.size 54 #[.int .i64 0, .int .i64 0, .int .i64 0, .int .i64 0] := by rw [← hW1]; exact HR.out.far (by simp) _
        have kB : Below w.heap.size w W1 := by rw [← hW1]; exact (hbel.setCell (by simp) _).drew
        have kE : W1.cell? ⟨b, o + k, none⟩ = some (.int .i64 m) := by rw [← hW1]; exact (cell_far hne).trans e1
        rw [hW1]
        clear x0 x1 x2 x3 f0 f1 f2 f3 HS HR hW1 hbel e1
        obtain ⟨a1, a2, a3, _⟩ := kS.after (Below.refl _ _) kS.lt
        have x0 := a1 0
        have x1 := a1 1
        have x2 := a1 2
        have x3 := a1 3
        have f0 := a2 0
        have f1 := a2 1
        have f2 := a2 2
        have f3 := a2 3
        have HS := hide kS
        have HR := hide kR
        clear kS kR a1 a2
        go_still_tail 11, (by kernel_rfl)
        change wpList _ _ _ _ _ W1.drew
        go_wp2_with fail
        refine ⟨⟨k + 1, p, q, r + y1, t + y2, by go_num, by omega, HBB.out, hs1.out, ?_, ?_, ?_⟩, by simp [intOf]; omega⟩
        · exact HS.out.set_ 3 (.int .i64 (t + y2))
        · exact HR.out.far (by simp) _
        · exact (kB.setCell (by simp) _).drew
    · have hd : xs.drop k = [] := List.drop_of_length_le (by omega)
      have hb := HB.out
      rw [hd] at hb
      have HF := hide (show F = (p, q, r, t) from hb.symm)
      clear hb hd hF h hF4
      obtain ⟨a1, a2, a3, _⟩ := hbs.after (Below.refl _ _) hbs.lt
      have x0 := a1 0
      have x1 := a1 1
      have x2 := a1 2
      have x3 := a1 3
      obtain ⟨b1, b2, b3, _⟩ := hbr.after (Below.refl _ _) hbr.lt
      have y0 := b1 0
      have y1 := b1 1
      have y2 := b1 2
      have y3 := b1 3
      have g0 := b2 0
      have g1 := b2 1
      have g2 := b2 2
      have g3 := b2 3
      clear a1 a2 b1 b2
      go_wp2_with fail
      have z := (((hbr.set_ 0 (.int .i64 p)).set_ 1 (.int .i64 q)).set_ 2 (.int .i64 r)).set_ 3 (.int .i64 t)
      obtain ⟨z4, _, _, _⟩ := z.after (Below.refl _ _) z.lt
      refine bodyPost_ret (v := .agg #[.int .i64 p, .int .i64 q, .int .i64 r, .int .i64 t]) (by simp [results, Tryd.results41, go_sem, z4]) rfl ⟨by rw [HF.out], ?_⟩
      exact (((hbel.setCell (by simp) _).setCell (by simp) _).setCell (by simp) _).setCell (by simp) _

end Go.Proofs.YtednobegombphaaDoor

/- The code of intermediate fractions; StepsBetween: the program's. -/
import Derived.Test.YtnjilpldfidbjaaStpB
import Derived.Deep.RegionHeld3
namespace Go.Proofs.Ytnjilpldfidbjaa
open Go.RowKit

def itc (p q : Int) : Int := if okF p q = true then (if tl (terms p q.toNat) = true then 5 else 0) else 1
def tk (p q : Int) : List Int := terms p q.toNat
def sbc (p q k : Int) : Int := if itc p q = 0 then (if 0 ≤ k ∧ k ≤ ((tk p q).length : Int) - 3 then 0 else 2) else itc p q
def sbx (p q k : Int) : List (Int × Int) := if sbc p q k = 0 then ((cv p q.toNat (k.toNat + 1)).p, (cv p q.toNat (k.toNat + 1)).q) :: stl (cv p q.toNat (k.toNat + 2)) ((tk p q).getD (k.toNat + 2) 0).toNat else []

theorem anyK_cons (us : List Int) (k : Nat) : ((us.drop 1).take k).any gtK = (((us.take (k + 1)).drop 1).any gtK) := by rw [List.drop_take]; simp
theorem tl_bd {p : Int} {q : Nat} (h : tl (terms p q) = false) {i : Nat} (hi : i + 1 < (terms p q).length) : 1 ≤ (terms p q)[i + 1] ∧ (terms p q)[i + 1] ≤ 1000 := by
  refine ⟨term_pos hi, ?_⟩
  unfold tl at h
  rw [List.any_eq_false] at h
  have hm : (terms p q)[i + 1] ∈ (terms p q).drop 1 := by
    have hl : i < ((terms p q).drop 1).length := by rw [List.length_drop]; omega
    have : (terms p q)[i + 1] = ((terms p q).drop 1)[i] := by rw [List.getElem_drop]; congr 1; omega
    rw [this]; exact List.getElem_mem hl
  have := h _ hm
  simp [gtK] at this
  omega

theorem size_any (A : Option Addr) (n c : Nat) (w : World) :
    Calls Try.prog 58 #[.slice A n c] w fun e w' => e = .returned (.int .i64 n) ∧ w = w' := by
  go_enter Try.func58, Try.ntmps58
  go_wp2
  go_ret
  exact ⟨rfl, rfl⟩

def anyT (us : List Int) (k : Nat) : Bool := ((us.take (k + 1)).drop 1).any gtK
theorem anyT_succ {us : List Int} {k : Nat} (h : k + 1 < us.length) : anyT us (k + 1) = (anyT us k || gtK us[k + 1]) := by
  unfold anyT
  rw [List.take_succ_eq_append_getElem h, List.drop_append_of_le_length (by rw [List.length_take]; omega), List.any_append]
  simp
theorem anyT_all {us : List Int} {k : Nat} (h : us.length ≤ k + 1) : anyT us k = tl us := by
  unfold anyT tl; rw [List.take_of_length_le h]
theorem anyT_true {us : List Int} {k : Nat} (h : k + 1 < us.length) (h2 : gtK us[k + 1] = true) : tl us = true := by
  refine List.any_eq_true.2 ⟨us[k + 1], ?_, h2⟩
  have hl : k < (us.drop 1).length := by rw [List.length_drop]; omega
  have : us[k + 1] = (us.drop 1)[k] := by rw [List.getElem_drop]; congr 1; omega
  rw [this]; exact List.getElem_mem hl

set_option maxRecDepth 100000 in
theorem l19Code_any (p q : Int) (w : World) :
    Calls Try.prog 51 #[.agg #[.int .i64 p, .int .i64 q]] w fun e w' => e = .returned (.int .i64 (itc p q)) ∧ Below w.heap.size w w' := by
  have hV := l02Ok_any p q
  by_cases ho : okF p q = true
  · obtain ⟨o1, o2, _⟩ := okF_iff.1 ho
    rw [ho] at hV
    obtain ⟨b, rfl⟩ : ∃ b : Nat, q = b := ⟨q.toNat, by omega⟩
    have hc : itc p b = if tl (terms p b) = true then 5 else 0 := by unfold itc; rw [if_pos ho]; rfl
    have HC5 := hide (show tl (terms p b) = true → itc p b = 5 from fun h => by rw [hc, if_pos h])
    have HC0 := hide (show tl (terms p b) = false → itc p b = 0 from fun h => by rw [hc, h]; rfl)
    generalize itc p b = code at *
    have hT := fun w => l03Terms_any p b w (by omega) (by omega)
    have hl60 := len_half 30 p b (by omega)
    have h00 := (term0_bd ho).1
    generalize terms p b = ts at *
    clear hc ho
    go_enter Try.func51, Try.ntmps51
    go_wp2_with fail
    refine (hV _).mono ?_
    rintro e w1 ⟨rfl, hb1⟩
    obtain ⟨a1, _, k3, _⟩ := (Blk.new w 25 #[.int .i64 p, .int .i64 b]).after hb1 (by simp)
    have x0 := a1 0
    have x1 := a1 1
    have hB := bstep (show Below w.heap.size w _ by go_grown) hb1 (by simp)
    clear a1 hb1
    go_wp2_with fail
    refine (hT _).mono ?_
    rintro e w2 ⟨g, c, n, rfl, hn, hg, hrow, hb2⟩
    have hB2 := bstep hB hb2 hB.size
    clear hT hV x0 x1 hb2 hB k3
    rw [← hn] at hl60 h00
    have hd : Rd w2 w2.heap.size 1 (some ⟨g, 0, none⟩) n (il ts) := hrow.rd
    have HN := hide hn
    clear hrow hn
    go_wp2_with fail
    go_loopw [4] (fun i wr => ∃ k : Nat, i = .int .i64 ((k : Int) + 1) ∧ k + 1 ≤ n ∧ anyT ts k = false ∧ w2 = wr) (fun i _ => n + 1 - (intOf i).toNat)
    case atStart => exact ⟨0, rfl, by omega, by simp [anyT], rfl⟩
    case round =>
      obtain ⟨k, rfl, hk, hany, rfl⟩ := hrel
      by_cases hlt : k + 1 < n
      · obtain ⟨b', o, e0, _, e1⟩ := hd.cell1 HN.out.symm hlt
        cases e0
        rw [Nat.zero_add] at e1
        have hn := HN.out
        have hs := anyT_succ (us := ts) (k := k) (by omega)
        rw [hany, Bool.false_or] at hs
        have ht := anyT_true (us := ts) (k := k) (by omega)
        generalize ts[k + 1]'(by omega) = x at *
        have HS := hide hs
        have HT := hide ht
        clear hs ht hany hn hd
        have i1 : (k : Int) + 1 < (n : Int) := by omega
        by_cases hx : 1000 < x
        · go_wp2
          go_ret
          exact ⟨by rw [HC5.out (HT.out (decide_eq_true hx))]; rfl, hB2⟩
        · go_wp2
          go_roundw
          case rel => exact ⟨k + 1, by simp, by omega, by rw [HS.out]; exact decide_eq_false hx, trivial⟩
          case measure => simp [intOf]; omega
      · have hn := HN.out
        have hh := anyT_all (us := ts) (k := k) (by omega)
        rw [hany] at hh
        have HH := hide hh.symm
        clear hh hany hn hd
        have i1 : ¬ (k : Int) + 1 < (n : Int) := by omega
        go_wp2
        go_ret
        exact ⟨by rw [HC0.out HH.out]; rfl, hB2⟩
  · have hf : okF p q = false := by simpa using ho
    have hc : itc p q = 1 := by unfold itc; rw [if_neg ho]
    rw [hf] at hV
    rw [hc]
    clear hc ho hf
    go_enter Try.func51, Try.ntmps51
    go_wp2_with fail
    refine (hV _).mono ?_
    rintro e w1 ⟨rfl, hb1⟩
    have hB := bstep (show Below w.heap.size w _ by go_grown) hb1 (by simp)
    go_wp2_with fail
    go_ret
    exact ⟨rfl, hB⟩

theorem Row.news {w : World} {g k n cap : Nat} {e : TypeId} {xs : List Value} (h : Row w g e k n cap xs) : ∀ j u, xs[j]? = some u → w.cell? ((⟨g, 0, none⟩ : Addr).add j) = some u := by
  intro j u hu
  have : (⟨g, 0, none⟩ : Addr).add j = ⟨g, j, none⟩ := by unfold Addr.add; split <;> simp_all
  rw [this]
  exact h.cell hu

end Go.Proofs.Ytnjilpldfidbjaa

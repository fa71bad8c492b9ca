/- The library's sort at multiples: the row holds their order. -/
import Derived.Test.YtpagfikhcmeciaaOrdA
import Derived.Test.YtpagfikhcmeciaaShelfF
import Derived.Shelf.SlSortCmp.Whole1
namespace Go.Proofs.Ytpagfikhcmeciaa
open Go.RowKit Go.Sort Go.Shelf

/-- A number below a bound, as a cell. -/
def encFin {n : Nat} (i : Fin (n + 1)) : Value := .int .i64 (i.val : Int)
def cfF (p q : Int) {n : Nat} (i j : Fin (n + 1)) : Int := cmp3 (rst p q (i.val : Int)) (rst p q (j.val : Int))
theorem lt_cfF (p q : Int) {n : Nat} (i j : Fin (n + 1)) : ltOf (cfF p q) i j = decide (rst p q (i.val : Int) < rst p q (j.val : Int)) := by
  unfold ltOf cfF cmp3
  by_cases h1 : rst p q (i.val : Int) < rst p q (j.val : Int)
  · simp [h1]
  · by_cases h2 : rst p q (j.val : Int) < rst p q (i.val : Int) <;> simp [h1, h2]
theorem swo_cfF (p q : Int) {n : Nat} : SWO (ltOf (cfF p q (n := n))) where
  irrefl x := by rw [lt_cfF]; simp
  trans x y z h1 h2 := by rw [lt_cfF] at *; simp at *; omega
  ntrans x y z h1 h2 := by rw [lt_cfF] at *; simp at *; omega
def allFin (n : Nat) : Array (Fin (n + 1)) := (List.finRange (n + 1)).toArray
theorem allFin_size (n : Nat) : (allFin n).size = n + 1 := by simp [allFin]
theorem allFin_rng (n : Nat) : (allFin n).toList.map (fun i : Fin (n + 1) => (i.val : Int)) = rng (n + 1) := by
  simp only [allFin, rng]
  apply List.ext_getElem?
  intro j
  by_cases hj : j < n + 1
  · simp [hj]
  · simp [hj]
theorem enc_il {n : Nat} (l : List (Fin (n + 1))) : l.map encFin = il (l.map fun i : Fin (n + 1) => (i.val : Int)) := by simp [il, encFin, List.map_map, Function.comp_def]

theorem sorted_ord {p q : Int} {n : Nat} (hq : 0 < q) (hg : Int.gcd p q = 1) (hn : ((n + 1 : Nat) : Int) ≤ q) {d' : Array (Fin (n + 1))} (hp : PermIn 0 (allFin n).size (allFin n) d') (hs : SortedIn (ltOf (cfF p q)) 0 (allFin n).size d') :
    d'.size = (allFin n).size ∧ d'.toList.map (fun i : Fin (n + 1) => (i.val : Int)) = ord (rst p q) (n + 1) := by
  obtain ⟨h1, _, h3⟩ := hp
  refine ⟨h1, ?_⟩
  have e1 : d'.extract 0 (allFin n).size = d' := by rw [← h1]; simp
  have e2 : (allFin n).extract 0 (allFin n).size = allFin n := by simp
  rw [e1, e2] at h3
  refine ord_unique (fun a b ha ha2 hb hb2 h => rst_inj hq hg ha (by omega) hb (by omega) h) ?_ ?_
  · have := h3.map (fun i : Fin (n + 1) => (i.val : Int))
    rwa [allFin_rng] at this
  · rw [List.pairwise_map, List.pairwise_iff_getElem]
    intro i j hi hj hij
    rw [Array.length_toList] at hi hj
    have := hs i j (Nat.zero_le _) hij (by omega)
    rw [lt_cfF, getElem!_pos d' i (by omega), getElem!_pos d' j (by omega)] at this
    have := of_decide_eq_false this
    simp only [Array.getElem_toList]
    omega

theorem sortF_any (p q : Int) (g fb n : Nat) (w : World) (hp : -1000000000 ≤ p ∧ p ≤ 1000000000) (hq : 1 ≤ q ∧ q ≤ 1000000000) (hg : Int.gcd p q = 1) (hn : ((n + 1 : Nat) : Int) ≤ q)
    (h0 : w.cell? ⟨fb, 0, none⟩ = some (.int .i64 p)) (h1 : w.cell? ⟨fb, 1, none⟩ = some (.int .i64 q)) (hb : fb < w.heap.size) (hne : fb ≠ g) (h : Row w g 2 1 (n + 1) (n + 1) (il (rng (n + 1)))) :
    Calls Try.prog 60 #[.slice (some ⟨g, 0, none⟩) (n + 1) (n + 1), .func (.func 61) #[] #[.pointer (some ⟨fb, 0, none⟩)]] w fun e w' => e = .returned (.tuple #[]) ∧ Row w' g 2 1 (n + 1) (n + 1) (il (ord (rst p q) (n + 1))) ∧ w.grownBy w' (some g) := by
  have eg : ∀ args w, (callFunc 61 args).run Try.prog w = .ok (.enter 61 args) w := enters_of Try.func61 (by kernel_rfl) rfl
  have hr : Row w g 2 1 (n + 1) (n + 1) ((allFin n).toList.map encFin) := by rw [enc_il, allFin_rng]; exact h
  have hcmp : CmpLays1 Try.prog 61 #[.pointer (some ⟨fb, 0, none⟩)] encFin (cfF p q (n := n)) g 0 (allFin n).size w := by
    intro m os dk hs x y
    have hrow : Row w g 2 1 (n + 1) (n + 1) ((allFin n).toList.map encFin) := hr
    have hgrow := (sort_row hrow hs m os).2
    have k0 : (sortWorld encFin w g 0 m dk os).cell? ⟨fb, 0, none⟩ = some (.int .i64 p) := (World.cell?_of_block (w := w) (a := ⟨fb, 0, none⟩) (hgrow.block fb hb (by intro h; injection h; omega))).trans h0
    have k1 : (sortWorld encFin w g 0 m dk os).cell? ⟨fb, 1, none⟩ = some (.int .i64 q) := (World.cell?_of_block (w := w) (a := ⟨fb, 1, none⟩) (hgrow.block fb hb (by intro h; injection h; omega))).trans h1
    exact ordered1_any p q fb (x.val : Int) (y.val : Int) _ (by omega) (by omega) hp hq k0 k1 (Nat.lt_of_lt_of_le hb hgrow.size)
  have hcon := Any.slices_SortFunc Try.sortF encFin (fun _ => rfl) (cfF p q (n := n)) (swo_cfF p q) 61 #[.pointer (some ⟨fb, 0, none⟩)] g 0 (n + 1) (allFin n) w eg hcmp hr.holds hr.lt (by rw [allFin_size]; omega)
  rw [allFin_size] at hcon
  refine Calls.mono (show Calls Try.prog 60 _ w _ from hcon) ?_
  rintro e w' ⟨rfl, d', m, os, hpm, hst, rfl⟩
  obtain ⟨hsz, hord⟩ := sorted_ord (by omega) hg hn (by rw [allFin_size]; exact hpm) (by rw [allFin_size]; exact hst)
  obtain ⟨a1, a2⟩ := sort_row hr hsz m os
  rw [enc_il, hord] at a1
  exact ⟨rfl, a1, a2⟩

end Go.Proofs.Ytpagfikhcmeciaa

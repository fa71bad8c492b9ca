/- Rows of rows: lists of pairs of numbers, each in a block of its own. -/
import Derived.Test.YtikpiigamnpafaaDoorHeld
import Derived.Test.YtikpiigamnpafaaDoorOwn
import Derived.Test.YtikpiigamnpafaaDoorBlk
namespace Go.Proofs.YtikpiigamnpafaaDoor
open Go.RowKit

/-- The slices of the inner rows. -/
def sls (gs : List Nat) : List Value := gs.map fun g => Value.slice (some ⟨g, 0, none⟩) 2 2
theorem sls_len (gs : List Nat) : (sls gs).length = gs.length := by simp [sls]
theorem sls_append (a b : List Nat) : sls (a ++ b) = sls a ++ sls b := by simp [sls]
theorem sls_at {gs : List Nat} {i : Nat} (hi : i < gs.length) : (sls gs)[i]? = some (.slice (some ⟨gs[i], 0, none⟩) 2 2) := by simp [sls, hi]
theorem one_sls (gs : List Nat) : ∀ u ∈ sls gs, u.oneCell' = true := by
  intro u hu
  simp only [sls, List.mem_map] at hu
  obtain ⟨z, _, rfl⟩ := hu
  rfl
theorem info_is : (Tryd.prog.info? 44).map (fun i => (i.zero, i.size, i.bytes)) = some (some (.slice none 0 0), 1, 24) := by kernel_rfl

theorem own_grown' {w w' : World} {base : Nat} {e : TypeId} {k n : Nat} {v : Value} {xs : List Value} {row : Option Nat} (h : w.ownsRow base e k v n xs) (hg : w.grownBy w' row) (hne : ∀ b, v.ownBlock = some b → some b ≠ row) : w'.ownsRow base e k v n xs := by
  obtain ⟨h6, h | ⟨g, cap, cur, hv, hbs, h1, r⟩⟩ := h
  · exact ⟨h6, .inl h⟩
  · refine ⟨h6, .inr ⟨g, cap, cur, hv, hbs, (hg.block g (Array.getElem?_eq_some_iff.1 h1).1 (hne g (by rw [hv]; rfl))).trans h1, r⟩⟩
theorem own_old' {w : World} {base : Nat} {e : TypeId} {k n : Nat} {v : Value} {xs : List Value} (h : w.ownsRow base e k v n xs) : ∀ b, v.ownBlock = some b → b < w.heap.size := by
  intro b hb
  obtain ⟨_, ⟨rfl, _⟩ | ⟨g, cap, cur, rfl, _, hh, _⟩⟩ := h
  · cases hb
  · have := (Array.getElem?_eq_some_iff.1 hh).1
    simp [Value.ownBlock] at hb
    omega

/-- v is a list of m rows of two numbers, all behind block B, in the blocks gs. -/
structure RR (w : World) (B : Nat) (v : Value) (m : Nat) (gs : List Nat) (ps : List (Int × Int)) : Prop where
  own : w.ownsRow B 44 1 v m (sls gs)
  gl : gs.length = m
  pl : ps.length = m
  nd : gs.Nodup
  blk : ∀ i (h : i < gs.length) (h2 : i < ps.length), B ≤ gs[i] ∧ Blk w gs[i] 2 #[.int .i64 (ps[i]).1, .int .i64 (ps[i]).2]
  out : ∀ b, v.ownBlock = some b → b ∉ gs

theorem RR.nil_ (w : World) (B : Nat) : RR w B (.slice none 0 0) 0 [] [] :=
  ⟨own_nil _ _ _ _, rfl, rfl, List.nodup_nil, fun i h => by simp at h, fun b hb => by cases hb⟩
theorem RR.below {w w' : World} {B m : Nat} {v : Value} {gs : List Nat} {ps : List (Int × Int)} (h : RR w B v m gs ps) (hb : Below w.heap.size w w') : RR w' B v m gs ps :=
  ⟨own_below h.own hb, h.gl, h.pl, h.nd, fun i h1 h2 => ⟨(h.blk i h1 h2).1, (hb.block _ (h.blk i h1 h2).2.lt).trans (h.blk i h1 h2).2⟩, h.out⟩
theorem RR.old {w : World} {B m : Nat} {v : Value} {gs : List Nat} {ps : List (Int × Int)} (h : RR w B v m gs ps) {g : Nat} (hg : g ∈ gs) : g < w.heap.size := by
  obtain ⟨i, hi, rfl⟩ := List.getElem_of_mem hg
  exact (h.blk i hi (by have := h.gl; have := h.pl; omega)).2.lt
/-- One more row, appended behind two new blocks. -/
theorem RR.push {w W w' : World} {B m g cap : Nat} {v : Value} {gs : List Nat} {ps : List (Int × Int)} {x y : Int} (h : RR w B v m gs ps) (hB : B ≤ w.heap.size)
    (hW : W = (w.alloc (.cells #[.int .i64 x, .int .i64 y] 2)).alloc (.cells #[.slice (some ⟨w.heap.size, 0, none⟩) 2 2] 44))
    (hown : w'.ownsRow B 44 1 (.slice (some ⟨g, 0, none⟩) (m + 1) cap) (m + 1) (sls gs ++ [.slice (some ⟨w.heap.size, 0, none⟩) 2 2])) (hgr : W.grownBy w' v.ownBlock) (hat : v.ownBlock = some g ∨ g = W.heap.size) :
    RR w' B (.slice (some ⟨g, 0, none⟩) (m + 1) cap) (m + 1) (gs ++ [w.heap.size]) (ps ++ [(x, y)]) := by
  have hnm : w.heap.size ∉ gs := fun hm => by have := h.old hm; omega
  have hvo : ∀ b, v.ownBlock = some b → b < w.heap.size := own_old' h.own
  have hWs : W.heap.size = w.heap.size + 2 := by rw [hW]; simp
  refine ⟨by rw [sls_append]; exact hown, by simp [h.gl], by simp [h.pl], ?_, ?_, ?_⟩
  · refine List.nodup_append.2 ⟨h.nd, by simp, fun a ha b hb => ?_⟩
    rw [List.mem_singleton] at hb
    subst hb
    exact fun e => hnm (e ▸ ha)
  · intro i h1 h2
    by_cases hi : i < gs.length
    · have hi2 : i < ps.length := by have := h.gl; have := h.pl; omega
      rw [List.getElem_append_left hi, List.getElem_append_left hi2]
      obtain ⟨b1, b2⟩ := h.blk i hi hi2
      refine ⟨b1, ?_⟩
      have hbW : Blk W gs[i] 2 #[.int .i64 (ps[i]).1, .int .i64 (ps[i]).2] := by rw [hW]; exact (b2.alloc _).alloc _
      exact hbW.grown hgr (fun e => h.out _ e.symm (List.getElem_mem hi))
    · have e1 : (gs ++ [w.heap.size])[i] = w.heap.size := by
        rw [List.getElem_append_right (by omega)]; simp
      have e2 : (ps ++ [(x, y)])[i] = (x, y) := by
        rw [List.getElem_append_right (by have := h.gl; have := h.pl; omega)]; simp
      rw [e1, e2]
      refine ⟨hB, ?_⟩
      have hbW : Blk W w.heap.size 2 #[.int .i64 x, .int .i64 y] := by rw [hW]; exact (Blk.new w _ _).alloc _
      exact hbW.grown hgr (fun e => by have := hvo _ e.symm; omega)
  · intro b hb hm
    simp [Value.ownBlock] at hb
    subst hb
    rcases List.mem_append.1 hm with hm | hm
    · rcases hat with ha | ha
      · exact h.out _ ha hm
      · have := h.old hm; omega
    · rw [List.mem_singleton] at hm
      rcases hat with ha | ha
      · have := hvo _ ha; omega
      · omega
/-- The list as it is read. -/
theorem RR.form {w : World} {B m : Nat} {v : Value} {gs : List Nat} {ps : List (Int × Int)} (h : RR w B v m gs ps) : ∃ A cap, v = .slice A m cap ∧ Rd w w.heap.size 1 A m (sls gs) := by
  obtain ⟨h6, ⟨rfl, h0⟩ | ⟨g, cap, cur, rfl, hb, hr⟩⟩ := h.own
  · subst h0
    exact ⟨none, 0, rfl, ⟨h6, fun hn => absurd hn (by omega)⟩⟩
  · exact ⟨_, cap, rfl, Rd.own ⟨h6, .inr ⟨g, cap, cur, rfl, hb, hr⟩⟩⟩
theorem RR.inner {w : World} {B m : Nat} {v : Value} {gs : List Nat} {ps : List (Int × Int)} (h : RR w B v m gs ps) {i : Nat} (h1 : i < gs.length) (h2 : i < ps.length) : Row w gs[i] 2 1 2 2 (il [(ps[i]).1, (ps[i]).2]) := by
  have hb := (h.blk i h1 h2).2
  exact ⟨_, hb, Nat.le_refl _, by simp [maxLen], rfl, rfl, rfl⟩

end Go.Proofs.YtikpiigamnpafaaDoor

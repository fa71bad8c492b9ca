/- Decimal forms of lists, and the text of a triple, in the program. -/
import Derived.Test.YtikpiigamnpafaaDoorDecI
import Derived.Test.YtikpiigamnpafaaDoorMk2
import Derived.Test.YtikpiigamnpafaaDoorShelfJ
import Derived.Shelf.Strings.OnBuilder
namespace Go.Proofs.YtikpiigamnpafaaDoor
open Go.RowKit Go.Sort Go.Shelf

theorem builderX : Builder.Extra Tryd.prog Tryd.lays156_ren where
  sizeBuilder := by kernel_rfl
  liesBuilder := by kernel_rfl
  t5 := Tryd.underlying5
  a5 := Tryd.isAgg5
  z5 := Tryd.sizeOf5
  v5 := Tryd.zeroValue5
  infoByte := by kernel_rfl
  cellsByte := by kernel_rfl
  sizeByte := by kernel_rfl
  neB5 := by decide

theorem info_str : (Tryd.prog.info? 9).map (fun i => (i.zero, i.size, i.bytes)) = some (some (.string ⟨#[]⟩), 1, 16) := by kernel_rfl
/-- The texts of the first k numbers; the rest is empty. -/
def dls (zs : List Int) (k : Nat) : List Value := (zs.take k).map (fun z => str (Lib.itoa z)) ++ List.replicate (zs.length - k) (Value.string ⟨#[]⟩)
theorem dls_step {zs : List Int} {k : Nat} (h : k < zs.length) : (dls zs k).set k (str (Lib.itoa (zs.getD k 0))) = dls zs (k + 1) := by
  unfold dls
  obtain ⟨m, hm⟩ : ∃ m, zs.length - k = m + 1 := ⟨zs.length - k - 1, by omega⟩
  have hl : ((zs.take k).map (fun z => str (Lib.itoa z))).length = k := by simp; omega
  rw [hm, List.set_append_right _ _ (by omega), hl, Nat.sub_self, List.replicate_succ, List.set_cons_zero, show zs.length - (k + 1) = m by omega, List.take_succ_eq_append_getElem h, List.map_append, List.append_assoc]
  simp [List.getD_eq_getElem?_getD, List.getElem?_eq_getElem h]
theorem dls_get {zs : List Int} {k : Nat} (h : k < zs.length) : (dls zs k)[k]? = some (.string ⟨#[]⟩) := by
  unfold dls
  obtain ⟨m, hm⟩ : ∃ m, zs.length - k = m + 1 := ⟨zs.length - k - 1, by omega⟩
  have hl : ((zs.take k).map (fun z => str (Lib.itoa z))).length = k := by simp; omega
  rw [hm, List.getElem?_append_right (by omega), hl, Nat.sub_self]
  rfl
theorem made_str (n : Nat) : madeCells (Value.string ⟨#[]⟩).cells n = Array.replicate n (.string ⟨#[]⟩) := by
  have e : (Value.string ⟨#[]⟩).cells = #[.string ⟨#[]⟩] := rfl
  rw [e]
  unfold madeCells
  apply Array.ext
  · simp
  · intro i h1 h2
    simp [Nat.mod_one]

/-- The texts of numbers, with a text between two of them. -/
def dcs (zs : List Int) (sep : ByteArray) : List UInt8 := Lib.join (zs.map Lib.itoa) sep.data.toList

set_option maxHeartbeats 2000000 in
theorem implDecimals_any (g n c : Nat) (zs : List Int) (sep : ByteArray) (w : World) (hr : Row w g 2 1 n c (il zs)) (hn : n ≤ 1000) (hz : ∀ z ∈ zs, -9223372036854775808 ≤ z ∧ z ≤ 9223372036854775807) (hl : (dcs zs sep).length ≤ 140737488355328) (ht : Tab w) :
    Calls Tryd.prog 38 #[.slice (some ⟨g, 0, none⟩) n c, .string sep] w fun e w' => e = .returned (str (dcs zs sep)) ∧ Below w.heap.size w w' := by
  obtain ⟨i0, hi, hz0, hz1, hz2⟩ := info_parts info_str
  have hzl : zs.length = n := by have := hr.len; rw [il_len] at this; omega
  have hmk : ∀ w : World, (Instr.makeSlice 77 (.int .i64 (n : Int)) (.int .i64 (n : Int))).run Tryd.prog w = .ok (.slice (some ⟨w.heap.size, 0, none⟩) n n) (w.alloc (.cells (Array.replicate n (.string ⟨#[]⟩)) 9)) := by
    intro w
    have := run_make w 77 9 i0 (.string ⟨#[]⟩) Tryd.underlying77 hi hz0 .i64 .i64 (n : Int) (n : Int) (by omega) (by omega) (by rw [hz2]; omega) (by omega)
    rw [this, hz1, Nat.mul_one]
    rw [Int.toNat_natCast, made_str]
  have hglt := hr.lt
  have HR := hide hr
  have HZ := hide hz
  have HZL := hide hzl
  have HL := hide hl
  clear hr hz hzl hl
  go_enter Tryd.func38, Tryd.ntmps38
  go_wp2
  go_loopw [13] (fun iv wr => ∃ k : Nat, iv = .int .i64 k ∧ k ≤ n ∧ Row wr w.heap.size 9 1 n n (dls zs k) ∧ Below w.heap.size w wr) (fun iv _ => n - (intOf iv).toNat)
  case atStart =>
    refine ⟨0, rfl, by omega, ?_, by go_grown⟩
    have := Row.lit (w := w) (g := w.heap.size) (e := 9) (k := 1) (n := n) (cs := Array.replicate n (.string ⟨#[]⟩)) rfl (by simp) (by simp [maxLen]; omega)
    simpa [dls, HZL.out] using this
  case round =>
    obtain ⟨k, rfl, hk, hrow, hbel⟩ := hrel
    by_cases hlt : k < n
    · have hkl : k < zs.length := by rw [HZL.out]; exact hlt
      have y1 := (HR.out.below hbel hglt).cell (il_getD (zs := zs) (i := k) hkl)
      have hstep := dls_step hkl
      have hget := dls_get hkl
      have hzr := HZ.out (zs.getD k 0) (by rw [List.getD_eq_getElem?_getD, List.getElem?_eq_getElem hkl]; exact List.getElem_mem hkl)
      generalize zs.getD k 0 = z at *
      have hD := implDecimal_any z wr hzr (ht.below hbel)
      obtain ⟨S, hS⟩ : ∃ S : ByteArray, str (Lib.itoa z) = .string S := ⟨_, rfl⟩
      rw [hS] at hD hstep
      clear hS
      have i1 : (k : Int) < (n : Int) := by omega
      have HST := hide hstep
      have HROW := hide hrow
      have sr := hrow.lt
      clear hstep hrow hget hkl
      go_wp2_with fail
      refine hD.mono ?_
      rintro e w1 ⟨rfl, b1⟩
      have hrow1 := HROW.out.below b1 sr
      have y2 := hrow1.cell (dls_get (by rw [HZL.out]; exact hlt))
      have hf := hrow1.frozen k
      have hst := hrow1.store k (.string S)
      rw [HST.out] at hst
      have HS := hide hst
      have HB := hide (bstep hbel b1 hbel.size)
      clear hst hrow1 hD
      go_wp2_with fail
      go_roundw
      case rel => exact ⟨k + 1, by go_num, by omega, HS.out, HB.out.setCell (by simp) _⟩
      case measure => simp [intOf]; omega
    · have hk2 : k = n := by omega
      subst hk2
      have hrow2 : Row wr w.heap.size 9 1 k k ((zs.map fun z => (⟨(Lib.itoa z).toArray⟩ : ByteArray)).map Value.string) := by
        have e : dls zs k = (zs.map fun z => (⟨(Lib.itoa z).toArray⟩ : ByteArray)).map Value.string := by
          unfold dls
          rw [List.take_of_length_le (by rw [HZL.out]; exact Nat.le_refl _), HZL.out, Nat.sub_self]
          simp [str]
        rw [← e]; exact hrow
      have hcells : ∀ (j : Nat) x, (zs.map fun z => (⟨(Lib.itoa z).toArray⟩ : ByteArray))[j]? = some x → wr.cell? ⟨w.heap.size, 0 + j, none⟩ = some (.string x) := by
        intro j x hx
        rw [Nat.zero_add]
        exact hrow2.cell (by rw [List.getElem?_map, hx]; rfl)
      have hlen : (zs.map fun z => (⟨(Lib.itoa z).toArray⟩ : ByteArray)).length = k := by simp [HZL.out]
      have hdat : (zs.map fun z => (⟨(Lib.itoa z).toArray⟩ : ByteArray)).map (·.data.toList) = zs.map Lib.itoa := by simp
      have hJ := Any.strings_Join Tryd.lays156 builderX w.heap.size 0 k (zs.map fun z => (⟨(Lib.itoa z).toArray⟩ : ByteArray)) sep wr hcells hrow2.lt (by omega) (by omega) (by rw [hdat]; exact HL.out)
      rw [hdat, hlen] at hJ
      have HJ := hide hJ
      clear hJ hcells hlen hdat hrow hrow2
      go_wp2_with fail
      refine Calls.mono (show Calls Tryd.prog 62 _ _ _ from HJ.out) ?_
      rintro e w1 ⟨rfl, b1⟩
      go_wp2_with fail
      go_ret
      exact ⟨rfl, bstep hbel b1 hbel.size⟩

end Go.Proofs.YtikpiigamnpafaaDoor

/- daysame.Lines, daysame.Entry, daysame.Entries: of two rows that say the same (without the journal's texts). -/
import Derived.Test.YtbdbpcllndajgaaGreatDoorAcrE
import Derived.Test.YtbdbpcllndajgaaGreatDoorQbX
import Derived.Test.YtbdbpcllndajgaaGreatDoorEntX
namespace Go.Proofs.YtbdbpcllndajgaaGreatDoor
open Go Go.RowKit
set_option linter.unusedVariables false

theorem EntTwo.new (w : World) (ref : ByteArray) (ent per : Int) (v : Value) (o : Obj) :
    Below w.heap.size w ((w.alloc (.cells #[.string ref, .int .i64 ent, .int .i64 per, v] 57)).alloc o) ∧
    EntAt ((w.alloc (.cells #[.string ref, .int .i64 ent, .int .i64 per, v] 57)).alloc o) w.heap.size ref ent per v ∧
    ∀ q, ((w.alloc (.cells #[.string ref, .int .i64 ent, .int .i64 per, v] 57)).alloc o).frozen? ⟨w.heap.size, q, none⟩ = false := by
  have h1 : EntAt (w.alloc (.cells #[.string ref, .int .i64 ent, .int .i64 per, v] 57)) w.heap.size ref ent per v := by unfold EntAt; simp
  have hb : Below (w.alloc (.cells #[.string ref, .int .i64 ent, .int .i64 per, v] 57)).heap.size (w.alloc (.cells #[.string ref, .int .i64 ent, .int .i64 per, v] 57)) ((w.alloc (.cells #[.string ref, .int .i64 ent, .int .i64 per, v] 57)).alloc o) := (Below.refl _ _).alloc (Nat.le_refl _) _
  exact ⟨bof_alloc hb, h1.below hb, fun q => ((bcell hb).2 _ q (by simp)).trans (by simp)⟩
theorem EntTwo.snd (w : World) (ref ref' : ByteArray) (ent per ent' per' : Int) (v v' : Value) :
    EntAt ((w.alloc (.cells #[.string ref, .int .i64 ent, .int .i64 per, v] 57)).alloc (.cells #[.string ref', .int .i64 ent', .int .i64 per', v'] 57)) (w.heap.size + 1) ref' ent' per' v' := by
  have e : w.heap.size + 1 = (w.alloc (.cells #[.string ref, .int .i64 ent, .int .i64 per, v] 57)).heap.size := by simp
  rw [e]
  generalize w.alloc (.cells #[.string ref, .int .i64 ent, .int .i64 per, v] 57) = w1
  unfold EntAt; simp
def SameE (es al : List Ent) : Prop := es.map Ent.core = al.map Ent.core
section
variable {es al : List Ent}
theorem SameE.len (h : SameE es al) : es.length = al.length := by
  have := congrArg List.length h
  simpa using this
theorem SameE.at_ (h : SameE es al) (i : Nat) (h1 : i < es.length) (h2 : i < al.length) : es[i].ref = al[i].ref ∧ es[i].ent = al[i].ent ∧ es[i].per = al[i].per ∧ es[i].lines = al[i].lines := by
  have e := congrArg (fun l => l[i]?) h
  simp only [List.getElem?_map, List.getElem?_eq_getElem h1, List.getElem?_eq_getElem h2, Option.map_some, Option.some.injEq, Ent.core, Prod.mk.injEq] at e
  exact e
end
set_option maxRecDepth 100000 in
theorem lines_same (l : List Line) (A M : Option Addr) (n c mc : Nat) (w : World) (ha : Rd w 3 lineEnc A n l) (hm : Rd w 3 lineEnc M n l) (hn : n ≤ 9223372036854775807) :
    Calls Tryz.prog 63 #[.slice A n c, .slice M n mc] w fun e w' => e = .returned (.bool true) ∧ Below w.heap.size w w' := by
  have Hn := hide ha.1
  go_enter Tryz.func63, Tryz.ntmps63
  go_wp2_with fail
  go_loopw [5] (fun iv wr => ∃ k : Nat, k ≤ n ∧ iv = .int .i64 k ∧ Below w.heap.size w wr) (fun iv _ => n - (intOf iv).toNat)
  case atStart => exact ⟨0, by omega, rfl, Below.refl _ _⟩
  case round =>
    obtain ⟨k, hk, rfl, hbr⟩ := hrel
    by_cases hlt : k < n
    · have hkl : k < l.length := by have := Hn.out; omega
      obtain ⟨b, off, rfl, hcs⟩ := (Rd.below ha hbr).2 (by omega)
      have q0 := hcs k 0 _ hkl rfl
      have q1 := hcs k 1 _ hkl rfl
      have q2 := hcs k 2 _ hkl rfl
      rw [Nat.add_zero] at q0
      obtain ⟨b', off', rfl, hcs'⟩ := (Rd.below hm hbr).2 (by omega)
      have s0 := hcs' k 0 _ hkl rfl
      have s1 := hcs' k 1 _ hkl rfl
      have s2 := hcs' k 2 _ hkl rfl
      rw [Nat.add_zero] at s0
      clear hcs hcs'
      have k0 : (0 : Int) ≤ (k : Int) := by omega
      have k1 : (k : Int) < (n : Int) := by omega
      go_wp2_with fail
      go_quiet (fail)
      go_wp2_with fail
      go_roundw
      case rel => exact ⟨k + 1, by omega, by go_num, bdrewN hbr _⟩
      case measure => simp [intOf]; omega
    · go_wp2_with fail
      go_ret
      exact ⟨rfl, hbr⟩
set_option maxRecDepth 100000 in
theorem entry_same (ref : ByteArray) (ent per : Int) (l : List Line) (A M : Option Addr) (n c mc : Nat) (w : World) (ha : Rd w 3 lineEnc A n l) (hm : Rd w 3 lineEnc M n l) (hn : n ≤ 9223372036854775807) :
    Calls Tryz.prog 28 #[.agg #[.string ref, .int .i64 ent, .int .i64 per, .slice A n c], .agg #[.string ref, .int .i64 ent, .int .i64 per, .slice M n mc]] w fun e w' => e = .returned (.bool true) ∧ Below w.heap.size w w' := by
  go_enter Tryz.func28, Tryz.ntmps28
  go_wp2_with fail
  have hb0 := (EntTwo.new w ref ent per (.slice A n c) (.cells #[.string ref, .int .i64 ent, .int .i64 per, .slice M n mc] 57)).1
  have hE := (EntTwo.new w ref ent per (.slice A n c) (.cells #[.string ref, .int .i64 ent, .int .i64 per, .slice M n mc] 57)).2.1
  have hF := EntTwo.snd w ref ref ent per ent per (.slice A n c) (.slice M n mc)
  generalize (w.alloc (.cells #[.string ref, .int .i64 ent, .int .i64 per, .slice A n c] 57)).alloc (.cells #[.string ref, .int .i64 ent, .int .i64 per, .slice M n mc] 57) = W1 at hb0 hE hF ⊢
  refine (lines_same l _ _ _ _ _ _ (ha.below hb0) (hm.below hb0) hn).mono ?_
  rintro e w2 ⟨rfl, hb2⟩
  obtain ⟨e0, e1, e2, e3⟩ := hE.below hb2
  obtain ⟨f0, f1, f2, f3⟩ := hF.below hb2
  have hb2 := bthen hb0 (Nat.le_refl _) hb2
  go_wp2_with fail
  go_ret
  exact ⟨by first | rfl | simp, hb2⟩

set_option maxHeartbeats 4000000 in
set_option maxRecDepth 100000 in
/-- daysame.Entries of two lists of entries that say the same -/
theorem ents_same (es al : List Ent) (A M : Option Addr) (n c mc : Nat) (w : World) (hn : n ≤ 9223372036854775807) (ha : Rd w 4 Ent.enc A n es) (hm : Rd w 4 Ent.enc M n al)
    (h1 : ∀ e, e ∈ es → Rd w 3 lineEnc e.A e.n e.lines ∧ e.n ≤ 20) (h2 : ∀ e, e ∈ al → Rd w 3 lineEnc e.A e.n e.lines ∧ e.n ≤ 20) (hs : SameE es al) :
    Calls Tryz.prog 9 #[.slice A n c, .slice M n mc] w fun e w' => e = .returned (.bool true) ∧ Below w.heap.size w w' := by
  have Hn := hide ha.1
  have Hm := hide hm.1
  have Hs := hide hs
  clear hs
  go_enter Tryz.func9, Tryz.ntmps9
  go_wp2_with fail
  go_loopw [5] (fun iv wr => ∃ k : Nat, k ≤ n ∧ iv = .int .i64 k ∧ Below w.heap.size w wr) (fun iv _ => n - (intOf iv).toNat)
  case atStart => exact ⟨0, by omega, rfl, Below.refl _ _⟩
  case round =>
    obtain ⟨k, hk, rfl, hbr⟩ := hrel
    by_cases hlt : k < n
    · have hkl : k < es.length := by have := Hn.out; omega
      have hkm : k < al.length := by have := Hm.out; omega
      obtain ⟨b, off, rfl, hcs⟩ := (Rd.below ha hbr).2 (by omega)
      have q0 := hcs k 0 _ hkl rfl
      have q1 := hcs k 1 _ hkl rfl
      have q2 := hcs k 2 _ hkl rfl
      have q3 := hcs k 3 _ hkl rfl
      rw [Nat.add_zero] at q0
      obtain ⟨b', off', rfl, hcs'⟩ := (Rd.below hm hbr).2 (by omega)
      have s0 := hcs' k 0 _ hkm rfl
      have s1 := hcs' k 1 _ hkm rfl
      have s2 := hcs' k 2 _ hkm rfl
      have s3 := hcs' k 3 _ hkm rfl
      rw [Nat.add_zero] at s0
      clear hcs hcs'
      obtain ⟨hx1, hx2⟩ := h1 _ (List.getElem_mem hkl)
      obtain ⟨hy1, hy2⟩ := h2 _ (List.getElem_mem hkm)
      obtain ⟨t1, t2, t3, t4⟩ := Hs.out.at_ k hkl hkm
      have t5 : es[k].n = al[k].n := by rw [← hx1.1, ← hy1.1, t4]
      rw [← t1] at s0
      rw [← t2] at s1
      rw [← t3] at s2
      rw [← t5] at s3
      rw [← t4, ← t5] at hy1
      have hx3 : es[k].n ≤ 9223372036854775807 := by omega
      clear t1 t2 t3 t4 t5 hy2 hx2
      have hx1 := hx1.below hbr
      have hy1 := hy1.below hbr
      have k0 : (0 : Int) ≤ (k : Int) := by omega
      have k1 : (k : Int) < (n : Int) := by omega
      go_wp2_with fail
      refine wp_region_still_tail 8 (by kernel_rfl) (by kernel_rfl) ?_
      simp only [List.take_succ_cons, List.take_zero, List.drop_succ_cons, List.drop_zero]
      change wpStill _ _ wr.drew _ _ _
      repeat still_step
      refine wpStill_nil ?_
      change wpList _ _ _ _ _ wr.drew
      go_wp2_with fail
      refine (entry_same es[k].ref es[k].ent es[k].per es[k].lines _ _ _ _ _ wr.drew hx1 hy1 hx3).mono ?_
      rintro e w4 ⟨rfl, hb4⟩
      have hb4 : Below wr.heap.size wr w4 := (bdrewN (Below.refl _ wr) 1).trans hb4
      go_wp2_with fail
      go_roundw
      case rel => exact ⟨k + 1, by omega, by go_num, hbr.trans (hb4.mono hbr.size)⟩
      case measure => simp [intOf]; omega
    · go_wp2_with fail
      go_ret
      exact ⟨rfl, hbr⟩
end Go.Proofs.YtbdbpcllndajgaaGreatDoor

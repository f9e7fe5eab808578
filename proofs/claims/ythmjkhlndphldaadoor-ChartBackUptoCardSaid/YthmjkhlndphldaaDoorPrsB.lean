/- strings.Split at a blank; chart.line: what each returns. -/
import Derived.Test.YthmjkhlndphldaaDoorPrsA
import Derived.Laws.ResultCell
import Derived.StillTailTactics
namespace Go.Proofs.YthmjkhlndphldaaDoor
open Go Go.RowKit
set_option linter.unusedVariables false

set_option maxHeartbeats 1000000 in
theorem split_blank (s : ByteArray) (w : World) (hs : s.size < 4294967281) :
    Calls Tryd.prog 82 #[.string s, .string ⟨#[32]⟩] w fun e w' =>
      e = .returned (.slice (some ⟨w.heap.size, 0, none⟩) (cutL 32 s.data.toList).length (cutL 32 s.data.toList).length) ∧ w' = w.alloc (.cells (((cutL 32 s.data.toList).map bs).map Value.string).toArray 9) := by
  have hcb := Lib.countB_le ⟨#[32]⟩ (Nat.le_refl 1) s.size s (Nat.le_refl _)
  have hcl := count_cut s 32
  have c := Any.strings_genSplit_core (P := Tryd.prog) (ρ := Tryd.lays221_ren) Tryd.lays221 (by kernel_rfl) s ⟨#[32]⟩ 0 (-1) (Lib.countB s ⟨#[32]⟩ + 1) w hs (Nat.le_refl 1) (Nat.zero_le _)
    (fun x cs _ => (Any.strings_Index_one (P := Tryd.prog) (ρ := Tryd.lays143_ren) Tryd.lays143 x 32 _).mono fun e w' ⟨he, hw⟩ => ⟨by rw [he, ← Lib.index_one], hw⟩)
    ((Any.strings_Count_one (P := Tryd.prog) (ρ := Tryd.lays138_ren) Tryd.lays138 s 32 w).mono fun e w' ⟨he, hw⟩ => ⟨by rw [he]; congr 3; exact (Lib.count_one 32 s.data.toList).symm, hw⟩)
    (by decide) (by decide) (by rw [if_pos (by decide)]; have : Lib.countB s ⟨#[32]⟩ ≤ s.size := hcb; omega)
  rw [Nat.add_sub_cancel] at c
  have hl := Lib.splitB_all ⟨#[32]⟩ (Nat.le_refl 1) 0 _ s rfl
  have e2 : Lib.cellsOf (Lib.splitB ⟨#[32]⟩ 0 (Lib.countB s ⟨#[32]⟩) s) (Lib.countB s ⟨#[32]⟩ + 1) = ((Lib.splitB ⟨#[32]⟩ 0 (Lib.countB s ⟨#[32]⟩) s).map Value.string).toArray := by rw [← hl]; exact Lib.cellsOf_full _
  rw [hl, e2, split_one, hcl] at c
  have c' : Calls Tryd.prog 118 #[.string s, .string ⟨#[32]⟩, .int .i64 0, .int .i64 (-1)] w _ := c
  generalize (cutL 32 s.data.toList).length = n at *
  generalize (((cutL 32 s.data.toList).map bs).map Value.string).toArray = cs at *
  clear c hl e2 hcl hcb
  go_enter Tryd.func82, Tryd.ntmps82
  go_wp2_with (go_at_call 118; refine c'.mono ?_; rintro e w' ⟨rfl, hw⟩; rw [hw])
  go_ret
  exact ⟨rfl, rfl⟩

/-- an account as one value -/
def accV (a : Acc) : Value := .agg #[.string a.code, .string a.name, .int .i64 a.kind, .string a.parent, .bool a.money]
theorem acc_info : (Tryd.prog.info? 29).map (·.size) = some 5 := by kernel_rfl
def kindI (x : UInt8) : Int := Lib.indexByte [45, 65, 76, 69, 73, 88] x
theorem kindI_of (x : UInt8) : kindOf [x] = if 0 < kindI x then kindI x else 0 := by
  have := all_bytes (p := fun b => kindOf [b] == if 0 < kindI b then kindI b else 0) (by decide +kernel) x
  simpa using this

theorem ret_agg {fn : Func} {p u : Tmp} {ty : TypeId} (h : fn.results = #[.cell p ty, .tmp u]) {tmps : Array Value} {w : World} {g : Nat} {t : TypeId} {cs : Array Value} {fr : Nat × Nat} {fs : _} {P : Program}
    (hp : tmps.getD p undef = .pointer (some ⟨g, 0, none⟩)) (hr : w.heap[g]? = some (.cells cs t fr)) (hu : P.underlying ty = some (.struct fs)) (hi : (P.info? ty).map (·.size) = some cs.size) :
    (results fn tmps).run P w = .ok (.tuple #[.agg cs, tmps.getD u undef]) w := by
  have hp' : tmps[p]?.getD undef = .pointer (some ⟨g, 0, none⟩) := by simpa using hp
  rw [results_cell_tmp h]
  simp [hp', asAddr, Result.andThen, run_loadVar_row w g t ty _ _ (.struct fs) hr hu rfl hi]
theorem heap_alloc_old (w : World) (o : Obj) {k : Nat} (h : k < w.heap.size) : (w.alloc o).heap[k]? = w.heap[k]? := Below.heap_alloc _ _ _ h

set_option maxRecDepth 100000 in
set_option maxHeartbeats 1000000 in
/-- a line that is not of five words -/
theorem line_c1 (s : ByteArray) (w : World) (hs : s.size < 4294967281) (h : (cutL 32 s.data.toList).length ≠ 5) :
    Calls Tryd.prog 50 #[.string s] w fun e w' => ∃ a, e = .returned (.tuple #[accV a, .bool false]) ∧ Below w.heap.size w w' := by
  have hn5 : (((cutL 32 s.data.toList).length : Int) != 5) = true := by rw [bne_iff_ne]; omega
  have hsp := split_blank s
  generalize (cutL 32 s.data.toList).length = n at *
  generalize (((cutL 32 s.data.toList).map bs).map Value.string).toArray = cs at *
  clear h
  go_enter Tryd.func50, Tryd.ntmps50
  go_wp2_with (go_at_call 82; refine (hsp _ hs).mono ?_; rintro e w' ⟨rfl, hw⟩; rw [hw])
  refine bodyPost_ret (ret_agg (fn := Tryd.f50) (p := 2) (u := 3) (by rfl) (by rfl) (by rw [heap_alloc_old _ _ (by simp)]; exact heap_alloc_new w _) Tryd.underlying29 (cs := #[.string ⟨#[]⟩, .string ⟨#[]⟩, .int .i64 0, .string ⟨#[]⟩, .bool false]) acc_info) rfl ?_
  exact ⟨⟨⟨#[]⟩, ⟨#[]⟩, 0, ⟨#[]⟩, false⟩, rfl, ((Below.refl _ w).alloc (Nat.le_refl _) _).alloc (by simp) _⟩

set_option maxRecDepth 100000 in
set_option maxHeartbeats 1000000 in
/-- a line of five words, the fourth of which is neither m nor - -/
theorem line_c3 (s : ByteArray) (w : World) (hs : s.size < 4294967281) (c n k m p : List UInt8) (h : cutL 32 s.data.toList = [c, n, k, m, p]) (hb : k.length ≠ 1 ∨ (m ≠ [109] ∧ m ≠ [45])) :
    Calls Tryd.prog 50 #[.string s] w fun e w' => ∃ a, e = .returned (.tuple #[accV a, .bool false]) ∧ Below w.heap.size w w' := by
  have hsp := split_blank s
  rw [h] at hsp
  have hk1 : (((bs k).size : Int) != 1) = decide (k.length ≠ 1) := by
    rw [bs_size]
    by_cases e : k.length = 1
    · rw [e]; rfl
    · rw [decide_eq_true e, bne_iff_ne]; omega
  have hs5 : ∀ (W : World), Calls Tryd.prog 82 #[.string s, .string ⟨#[32]⟩] W fun e w' => e = .returned (.slice (some ⟨W.heap.size, 0, none⟩) 5 5) ∧ w' = W.alloc (.cells #[.string (bs c), .string (bs n), .string (bs k), .string (bs m), .string (bs p)] 9) := fun W => hsp W hs
  clear hsp h
  by_cases e1 : k.length = 1
  · have hmm : ¬ m = [109] ∧ ¬ m = [45] := by
      rcases hb with h | h
      · exact absurd e1 h
      · exact h
    rw [decide_eq_false (by simpa using e1)] at hk1
    have hm1 : ((bs m).toList == [109]) = false := by rw [bs_toList, beq_eq_false_iff_ne]; exact hmm.1
    have hm2 : ((bs m).toList == [45]) = false := by rw [bs_toList, beq_eq_false_iff_ne]; exact hmm.2
    clear hb hmm e1
    go_enter Tryd.func50, Tryd.ntmps50
    go_wp2_with (go_at_call 82; refine (hs5 _).mono ?_; rintro e w' ⟨rfl, hw⟩; rw [hw])
    refine bodyPost_ret (ret_agg (fn := Tryd.f50) (p := 2) (u := 3) (by rfl) (by rfl) (by rw [heap_alloc_old _ _ (by simp)]; exact heap_alloc_new w _) Tryd.underlying29 (cs := #[.string ⟨#[]⟩, .string ⟨#[]⟩, .int .i64 0, .string ⟨#[]⟩, .bool false]) acc_info) rfl ?_
    exact ⟨⟨⟨#[]⟩, ⟨#[]⟩, 0, ⟨#[]⟩, false⟩, rfl, ((Below.refl _ w).alloc (Nat.le_refl _) _).alloc (by simp) _⟩
  · rw [decide_eq_true e1] at hk1
    clear hb e1
    go_enter Tryd.func50, Tryd.ntmps50
    go_wp2_with (go_at_call 82; refine (hs5 _).mono ?_; rintro e w' ⟨rfl, hw⟩; rw [hw])
    refine bodyPost_ret (ret_agg (fn := Tryd.f50) (p := 2) (u := 3) (by rfl) (by rfl) (by rw [heap_alloc_old _ _ (by simp)]; exact heap_alloc_new w _) Tryd.underlying29 (cs := #[.string ⟨#[]⟩, .string ⟨#[]⟩, .int .i64 0, .string ⟨#[]⟩, .bool false]) acc_info) rfl ?_
    exact ⟨⟨⟨#[]⟩, ⟨#[]⟩, 0, ⟨#[]⟩, false⟩, rfl, ((Below.refl _ w).alloc (Nat.le_refl _) _).alloc (by simp) _⟩

--LINE
set_option maxRecDepth 100000 in
set_option maxHeartbeats 1000000 in
theorem line_Am (s : ByteArray) (w : World) (hs : s.size < 4294967281) (c n p : List UInt8) (x : UInt8) (h : cutL 32 s.data.toList = [c, n, [x], [109], p]) (hp : p = [45]) :
    Calls Tryd.prog 50 #[.string s] w fun e w' => e = .returned (.tuple #[accV ⟨bs c, bs n, kindI x, ⟨#[]⟩, true⟩, .bool (decide (0 < kindI x))]) ∧ Below w.heap.size w w' := by
  have hsp := split_blank s
  rw [h] at hsp
  have hs5 : ∀ (W : World), Calls Tryd.prog 82 #[.string s, .string ⟨#[32]⟩] W fun e w' => e = .returned (.slice (some ⟨W.heap.size, 0, none⟩) 5 5) ∧ w' = W.alloc (.cells #[.string (bs c), .string (bs n), .string ⟨#[x]⟩, .string (bs [109]), .string (bs p)] 9) := fun W => hsp W hs
  have hix : ∀ (W : World), Calls Tryd.prog 83 #[.string ⟨#[45, 65, 76, 69, 73, 88]⟩, .string ⟨#[x]⟩] W fun e w' => e = .returned (.int .i64 (kindI x)) ∧ w' = W := fun W => Any.strings_Index_one (P := Tryd.prog) (ρ := Tryd.lays143_ren) Tryd.lays143 ⟨#[45, 65, 76, 69, 73, 88]⟩ x W
  clear hsp h
  have hm1 : ((bs [109]).toList == [109]) = true := by rw [bs_toList]; rfl
  have hp1 : ((bs p).toList == [45]) = true := by rw [hp, bs_toList]; rfl
  clear hp
  have hx1 : ((⟨#[x]⟩ : ByteArray).size : Int) = 1 := rfl
  go_enter Tryd.func50, Tryd.ntmps50
  go_wp2_with (go_at_call 82; refine (hs5 _).mono ?_; rintro e w' ⟨rfl, hw⟩; rw [hw])
  obtain ⟨W1, hW1⟩ : ∃ W1, W1 = ((w.alloc (.cells #[.string ⟨#[]⟩, .string ⟨#[]⟩, .int .i64 0, .string ⟨#[]⟩, .bool false] 29)).alloc (.cells #[.string (bs c), .string (bs n), .string ⟨#[x]⟩, .string (bs [109]), .string (bs p)] 9)) := ⟨_, rfl⟩
  rw [← hW1]
  have hsz : (w.alloc (.cells #[.string ⟨#[]⟩, .string ⟨#[]⟩, .int .i64 0, .string ⟨#[]⟩, .bool false] 29)).heap.size = w.heap.size + 1 := World.size_alloc _ _
  have d0 : W1.cell? ⟨w.heap.size + 1, 0, none⟩ = some (.string (bs c)) := by rw [hW1, ← hsz, World.cell?_alloc_new]; rfl
  have d1 : W1.cell? ⟨w.heap.size + 1, 1, none⟩ = some (.string (bs n)) := by rw [hW1, ← hsz, World.cell?_alloc_new]; rfl
  have d2 : W1.cell? ⟨w.heap.size + 1, 2, none⟩ = some (.string (⟨#[x]⟩)) := by rw [hW1, ← hsz, World.cell?_alloc_new]; rfl
  have d3 : W1.cell? ⟨w.heap.size + 1, 3, none⟩ = some (.string (bs [109])) := by rw [hW1, ← hsz, World.cell?_alloc_new]; rfl
  have d4 : W1.cell? ⟨w.heap.size + 1, 4, none⟩ = some (.string (bs p)) := by rw [hW1, ← hsz, World.cell?_alloc_new]; rfl
  refine wp_region_still_tail 18 (by kernel_rfl) (by kernel_rfl) ?_
  simp only [List.take_succ_cons, List.take_zero, List.drop_succ_cons, List.drop_zero]
  change wpStill _ _ W1.drew _ _ _
  repeat still_step
  still_call (hix _)
  repeat still_step
  refine wpStill_nil ?_
  change wpList _ _ _ _ _ W1.drew
  clear d0 d1 d2 d3 d4 hsz
  subst hW1
  go_wp2_with fail
  refine bodyPost_ret (ret_agg (fn := Tryd.f50) (p := 2) (u := 3) (by rfl) (by rfl) (by show (World.alloc _ _).heap[_]? = _; rw [heap_alloc_old _ _ (by simp)]; exact heap_alloc_new w _) Tryd.underlying29 (cs := #[.string (bs c), .string (bs n), .int .i64 (kindI x), .string ⟨#[]⟩, .bool true]) acc_info) rfl ?_
  exact ⟨rfl, bdrewN (((Below.refl _ w).alloc (Nat.le_refl _) _).alloc (by simp) _) 1⟩

set_option maxRecDepth 100000 in
set_option maxHeartbeats 1000000 in
theorem line_An (s : ByteArray) (w : World) (hs : s.size < 4294967281) (c n p : List UInt8) (x : UInt8) (h : cutL 32 s.data.toList = [c, n, [x], [45], p]) (hp : p = [45]) :
    Calls Tryd.prog 50 #[.string s] w fun e w' => e = .returned (.tuple #[accV ⟨bs c, bs n, kindI x, ⟨#[]⟩, false⟩, .bool (decide (0 < kindI x))]) ∧ Below w.heap.size w w' := by
  have hsp := split_blank s
  rw [h] at hsp
  have hs5 : ∀ (W : World), Calls Tryd.prog 82 #[.string s, .string ⟨#[32]⟩] W fun e w' => e = .returned (.slice (some ⟨W.heap.size, 0, none⟩) 5 5) ∧ w' = W.alloc (.cells #[.string (bs c), .string (bs n), .string ⟨#[x]⟩, .string (bs [45]), .string (bs p)] 9) := fun W => hsp W hs
  have hix : ∀ (W : World), Calls Tryd.prog 83 #[.string ⟨#[45, 65, 76, 69, 73, 88]⟩, .string ⟨#[x]⟩] W fun e w' => e = .returned (.int .i64 (kindI x)) ∧ w' = W := fun W => Any.strings_Index_one (P := Tryd.prog) (ρ := Tryd.lays143_ren) Tryd.lays143 ⟨#[45, 65, 76, 69, 73, 88]⟩ x W
  clear hsp h
  have hm1 : ((bs [45]).toList == [109]) = false := by rw [bs_toList]; rfl
  have hm2 : ((bs [45]).toList == [45]) = true := by rw [bs_toList]; rfl
  have hp1 : ((bs p).toList == [45]) = true := by rw [hp, bs_toList]; rfl
  clear hp
  have hx1 : ((⟨#[x]⟩ : ByteArray).size : Int) = 1 := rfl
  go_enter Tryd.func50, Tryd.ntmps50
  go_wp2_with (go_at_call 82; refine (hs5 _).mono ?_; rintro e w' ⟨rfl, hw⟩; rw [hw])
  obtain ⟨W1, hW1⟩ : ∃ W1, W1 = ((w.alloc (.cells #[.string ⟨#[]⟩, .string ⟨#[]⟩, .int .i64 0, .string ⟨#[]⟩, .bool false] 29)).alloc (.cells #[.string (bs c), .string (bs n), .string ⟨#[x]⟩, .string (bs [45]), .string (bs p)] 9)) := ⟨_, rfl⟩
  rw [← hW1]
  have hsz : (w.alloc (.cells #[.string ⟨#[]⟩, .string ⟨#[]⟩, .int .i64 0, .string ⟨#[]⟩, .bool false] 29)).heap.size = w.heap.size + 1 := World.size_alloc _ _
  have d0 : W1.cell? ⟨w.heap.size + 1, 0, none⟩ = some (.string (bs c)) := by rw [hW1, ← hsz, World.cell?_alloc_new]; rfl
  have d1 : W1.cell? ⟨w.heap.size + 1, 1, none⟩ = some (.string (bs n)) := by rw [hW1, ← hsz, World.cell?_alloc_new]; rfl
  have d2 : W1.cell? ⟨w.heap.size + 1, 2, none⟩ = some (.string (⟨#[x]⟩)) := by rw [hW1, ← hsz, World.cell?_alloc_new]; rfl
  have d3 : W1.cell? ⟨w.heap.size + 1, 3, none⟩ = some (.string (bs [45])) := by rw [hW1, ← hsz, World.cell?_alloc_new]; rfl
  have d4 : W1.cell? ⟨w.heap.size + 1, 4, none⟩ = some (.string (bs p)) := by rw [hW1, ← hsz, World.cell?_alloc_new]; rfl
  refine wp_region_still_tail 18 (by kernel_rfl) (by kernel_rfl) ?_
  simp only [List.take_succ_cons, List.take_zero, List.drop_succ_cons, List.drop_zero]
  change wpStill _ _ W1.drew _ _ _
  repeat still_step
  still_call (hix _)
  repeat still_step
  refine wpStill_nil ?_
  change wpList _ _ _ _ _ W1.drew
  clear d0 d1 d2 d3 d4 hsz
  subst hW1
  go_wp2_with fail
  refine bodyPost_ret (ret_agg (fn := Tryd.f50) (p := 2) (u := 3) (by rfl) (by rfl) (by show (World.alloc _ _).heap[_]? = _; rw [heap_alloc_old _ _ (by simp)]; exact heap_alloc_new w _) Tryd.underlying29 (cs := #[.string (bs c), .string (bs n), .int .i64 (kindI x), .string ⟨#[]⟩, .bool false]) acc_info) rfl ?_
  exact ⟨rfl, bdrewN (((Below.refl _ w).alloc (Nat.le_refl _) _).alloc (by simp) _) 1⟩

set_option maxRecDepth 100000 in
set_option maxHeartbeats 1000000 in
theorem line_Bm (s : ByteArray) (w : World) (hs : s.size < 4294967281) (c n p : List UInt8) (x : UInt8) (h : cutL 32 s.data.toList = [c, n, [x], [109], p]) (hp : p ≠ [45]) (hd : digitsB (bs p) 6 = false) (hpl : p.length ≤ 9223372036854775807) :
    Calls Tryd.prog 50 #[.string s] w fun e w' => e = .returned (.tuple #[accV ⟨bs c, bs n, kindI x, bs p, true⟩, .bool (false)]) ∧ Below w.heap.size w w' := by
  have hsp := split_blank s
  rw [h] at hsp
  have hs5 : ∀ (W : World), Calls Tryd.prog 82 #[.string s, .string ⟨#[32]⟩] W fun e w' => e = .returned (.slice (some ⟨W.heap.size, 0, none⟩) 5 5) ∧ w' = W.alloc (.cells #[.string (bs c), .string (bs n), .string ⟨#[x]⟩, .string (bs [109]), .string (bs p)] 9) := fun W => hsp W hs
  have hix : ∀ (W : World), Calls Tryd.prog 83 #[.string ⟨#[45, 65, 76, 69, 73, 88]⟩, .string ⟨#[x]⟩] W fun e w' => e = .returned (.int .i64 (kindI x)) ∧ w' = W := fun W => Any.strings_Index_one (P := Tryd.prog) (ρ := Tryd.lays143_ren) Tryd.lays143 ⟨#[45, 65, 76, 69, 73, 88]⟩ x W
  clear hsp h
  have hm1 : ((bs [109]).toList == [109]) = true := by rw [bs_toList]; rfl
  have hp1 : ((bs p).toList == [45]) = false := by rw [bs_toList, beq_eq_false_iff_ne]; exact hp
  have HD := hide hd
  clear hp hd
  have hx1 : ((⟨#[x]⟩ : ByteArray).size : Int) = 1 := rfl
  go_enter Tryd.func50, Tryd.ntmps50
  go_wp2_with (go_at_call 82; refine (hs5 _).mono ?_; rintro e w' ⟨rfl, hw⟩; rw [hw])
  obtain ⟨W1, hW1⟩ : ∃ W1, W1 = ((w.alloc (.cells #[.string ⟨#[]⟩, .string ⟨#[]⟩, .int .i64 0, .string ⟨#[]⟩, .bool false] 29)).alloc (.cells #[.string (bs c), .string (bs n), .string ⟨#[x]⟩, .string (bs [109]), .string (bs p)] 9)) := ⟨_, rfl⟩
  rw [← hW1]
  have hsz : (w.alloc (.cells #[.string ⟨#[]⟩, .string ⟨#[]⟩, .int .i64 0, .string ⟨#[]⟩, .bool false] 29)).heap.size = w.heap.size + 1 := World.size_alloc _ _
  have d0 : W1.cell? ⟨w.heap.size + 1, 0, none⟩ = some (.string (bs c)) := by rw [hW1, ← hsz, World.cell?_alloc_new]; rfl
  have d1 : W1.cell? ⟨w.heap.size + 1, 1, none⟩ = some (.string (bs n)) := by rw [hW1, ← hsz, World.cell?_alloc_new]; rfl
  have d2 : W1.cell? ⟨w.heap.size + 1, 2, none⟩ = some (.string (⟨#[x]⟩)) := by rw [hW1, ← hsz, World.cell?_alloc_new]; rfl
  have d3 : W1.cell? ⟨w.heap.size + 1, 3, none⟩ = some (.string (bs [109])) := by rw [hW1, ← hsz, World.cell?_alloc_new]; rfl
  have d4 : W1.cell? ⟨w.heap.size + 1, 4, none⟩ = some (.string (bs p)) := by rw [hW1, ← hsz, World.cell?_alloc_new]; rfl
  refine wp_region_still_tail 18 (by kernel_rfl) (by kernel_rfl) ?_
  simp only [List.take_succ_cons, List.take_zero, List.drop_succ_cons, List.drop_zero]
  change wpStill _ _ W1.drew _ _ _
  repeat still_step
  still_call (hix _)
  repeat still_step
  refine wpStill_nil ?_
  change wpList _ _ _ _ _ W1.drew
  clear d0 d1 d2 d3 d4 hsz
  subst hW1
  go_wp2_with fail
  refine (digits_any (bs p) 6 _ hpl).mono ?_
  rintro e w2 ⟨rfl, hb2⟩
  rw [HD.out]
  have hr : VRow w2 w.heap.size 29 5 (fun j => #[Value.string (bs c), .string (bs n), .int .i64 (kindI x), .string (bs p), .bool true].getD j undef) := by
    have e := hb2.block w.heap.size (by simp; omega)
    unfold VRow
    rw [e]
    show (World.alloc _ _).heap[_]? = _
    rw [heap_alloc_old _ _ (by simp)]
    exact heap_alloc_new w _
  have hbw : Below w.heap.size w w2 := (bdrewN (((Below.refl _ w).alloc (Nat.le_refl _) _).alloc (by simp) _) 1).trans (hb2.mono (by simp; omega))
  clear hb2
  have c0 : w2.cell? ⟨w.heap.size, 0, none⟩ = some (.string (bs c)) := hr.cell 0 (by omega)
  have c1 : w2.cell? ⟨w.heap.size, 1, none⟩ = some (.string (bs n)) := hr.cell 1 (by omega)
  have c2 : w2.cell? ⟨w.heap.size, 2, none⟩ = some (.int .i64 (kindI x)) := hr.cell 2 (by omega)
  have c3 : w2.cell? ⟨w.heap.size, 3, none⟩ = some (.string (bs p)) := hr.cell 3 (by omega)
  have c4 : w2.cell? ⟨w.heap.size, 4, none⟩ = some (.bool true) := hr.cell 4 (by omega)
  have f0 := hr.frozen 0
  have f1 := hr.frozen 1
  have f2 := hr.frozen 2
  have f3 := hr.frozen 3
  have f4 := hr.frozen 4
  go_wp2_with fail
  have hrf := ((((hr.set_ 0 (.string (bs c))).set_ 1 (.string (bs n))).set_ 2 (.int .i64 (kindI x))).set_ 3 (.string (bs p))).set_ 4 (.bool true)
  refine bodyPost_ret (ret_agg (fn := Tryd.f50) (p := 2) (u := 3) (by rfl) (by rfl) hrf Tryd.underlying29 (cs := #[.string (bs c), .string (bs n), .int .i64 (kindI x), .string (bs p), .bool true]) acc_info) rfl ?_
  exact ⟨rfl, ((((hbw.setCell (Nat.le_refl _) _).setCell (Nat.le_refl _) _).setCell (Nat.le_refl _) _).setCell (Nat.le_refl _) _).setCell (Nat.le_refl _) _⟩

set_option maxRecDepth 100000 in
set_option maxHeartbeats 1000000 in
theorem line_Bn (s : ByteArray) (w : World) (hs : s.size < 4294967281) (c n p : List UInt8) (x : UInt8) (h : cutL 32 s.data.toList = [c, n, [x], [45], p]) (hp : p ≠ [45]) (hd : digitsB (bs p) 6 = false) (hpl : p.length ≤ 9223372036854775807) :
    Calls Tryd.prog 50 #[.string s] w fun e w' => e = .returned (.tuple #[accV ⟨bs c, bs n, kindI x, bs p, false⟩, .bool (false)]) ∧ Below w.heap.size w w' := by
  have hsp := split_blank s
  rw [h] at hsp
  have hs5 : ∀ (W : World), Calls Tryd.prog 82 #[.string s, .string ⟨#[32]⟩] W fun e w' => e = .returned (.slice (some ⟨W.heap.size, 0, none⟩) 5 5) ∧ w' = W.alloc (.cells #[.string (bs c), .string (bs n), .string ⟨#[x]⟩, .string (bs [45]), .string (bs p)] 9) := fun W => hsp W hs
  have hix : ∀ (W : World), Calls Tryd.prog 83 #[.string ⟨#[45, 65, 76, 69, 73, 88]⟩, .string ⟨#[x]⟩] W fun e w' => e = .returned (.int .i64 (kindI x)) ∧ w' = W := fun W => Any.strings_Index_one (P := Tryd.prog) (ρ := Tryd.lays143_ren) Tryd.lays143 ⟨#[45, 65, 76, 69, 73, 88]⟩ x W
  clear hsp h
  have hm1 : ((bs [45]).toList == [109]) = false := by rw [bs_toList]; rfl
  have hm2 : ((bs [45]).toList == [45]) = true := by rw [bs_toList]; rfl
  have hp1 : ((bs p).toList == [45]) = false := by rw [bs_toList, beq_eq_false_iff_ne]; exact hp
  have HD := hide hd
  clear hp hd
  have hx1 : ((⟨#[x]⟩ : ByteArray).size : Int) = 1 := rfl
  go_enter Tryd.func50, Tryd.ntmps50
  go_wp2_with (go_at_call 82; refine (hs5 _).mono ?_; rintro e w' ⟨rfl, hw⟩; rw [hw])
  obtain ⟨W1, hW1⟩ : ∃ W1, W1 = ((w.alloc (.cells #[.string ⟨#[]⟩, .string ⟨#[]⟩, .int .i64 0, .string ⟨#[]⟩, .bool false] 29)).alloc (.cells #[.string (bs c), .string (bs n), .string ⟨#[x]⟩, .string (bs [45]), .string (bs p)] 9)) := ⟨_, rfl⟩
  rw [← hW1]
  have hsz : (w.alloc (.cells #[.string ⟨#[]⟩, .string ⟨#[]⟩, .int .i64 0, .string ⟨#[]⟩, .bool false] 29)).heap.size = w.heap.size + 1 := World.size_alloc _ _
  have d0 : W1.cell? ⟨w.heap.size + 1, 0, none⟩ = some (.string (bs c)) := by rw [hW1, ← hsz, World.cell?_alloc_new]; rfl
  have d1 : W1.cell? ⟨w.heap.size + 1, 1, none⟩ = some (.string (bs n)) := by rw [hW1, ← hsz, World.cell?_alloc_new]; rfl
  have d2 : W1.cell? ⟨w.heap.size + 1, 2, none⟩ = some (.string (⟨#[x]⟩)) := by rw [hW1, ← hsz, World.cell?_alloc_new]; rfl
  have d3 : W1.cell? ⟨w.heap.size + 1, 3, none⟩ = some (.string (bs [45])) := by rw [hW1, ← hsz, World.cell?_alloc_new]; rfl
  have d4 : W1.cell? ⟨w.heap.size + 1, 4, none⟩ = some (.string (bs p)) := by rw [hW1, ← hsz, World.cell?_alloc_new]; rfl
  refine wp_region_still_tail 18 (by kernel_rfl) (by kernel_rfl) ?_
  simp only [List.take_succ_cons, List.take_zero, List.drop_succ_cons, List.drop_zero]
  change wpStill _ _ W1.drew _ _ _
  repeat still_step
  still_call (hix _)
  repeat still_step
  refine wpStill_nil ?_
  change wpList _ _ _ _ _ W1.drew
  clear d0 d1 d2 d3 d4 hsz
  subst hW1
  go_wp2_with fail
  refine (digits_any (bs p) 6 _ hpl).mono ?_
  rintro e w2 ⟨rfl, hb2⟩
  rw [HD.out]
  have hr : VRow w2 w.heap.size 29 5 (fun j => #[Value.string (bs c), .string (bs n), .int .i64 (kindI x), .string (bs p), .bool false].getD j undef) := by
    have e := hb2.block w.heap.size (by simp; omega)
    unfold VRow
    rw [e]
    show (World.alloc _ _).heap[_]? = _
    rw [heap_alloc_old _ _ (by simp)]
    exact heap_alloc_new w _
  have hbw : Below w.heap.size w w2 := (bdrewN (((Below.refl _ w).alloc (Nat.le_refl _) _).alloc (by simp) _) 1).trans (hb2.mono (by simp; omega))
  clear hb2
  have c0 : w2.cell? ⟨w.heap.size, 0, none⟩ = some (.string (bs c)) := hr.cell 0 (by omega)
  have c1 : w2.cell? ⟨w.heap.size, 1, none⟩ = some (.string (bs n)) := hr.cell 1 (by omega)
  have c2 : w2.cell? ⟨w.heap.size, 2, none⟩ = some (.int .i64 (kindI x)) := hr.cell 2 (by omega)
  have c3 : w2.cell? ⟨w.heap.size, 3, none⟩ = some (.string (bs p)) := hr.cell 3 (by omega)
  have c4 : w2.cell? ⟨w.heap.size, 4, none⟩ = some (.bool false) := hr.cell 4 (by omega)
  have f0 := hr.frozen 0
  have f1 := hr.frozen 1
  have f2 := hr.frozen 2
  have f3 := hr.frozen 3
  have f4 := hr.frozen 4
  go_wp2_with fail
  have hrf := ((((hr.set_ 0 (.string (bs c))).set_ 1 (.string (bs n))).set_ 2 (.int .i64 (kindI x))).set_ 3 (.string (bs p))).set_ 4 (.bool false)
  refine bodyPost_ret (ret_agg (fn := Tryd.f50) (p := 2) (u := 3) (by rfl) (by rfl) hrf Tryd.underlying29 (cs := #[.string (bs c), .string (bs n), .int .i64 (kindI x), .string (bs p), .bool false]) acc_info) rfl ?_
  exact ⟨rfl, ((((hbw.setCell (Nat.le_refl _) _).setCell (Nat.le_refl _) _).setCell (Nat.le_refl _) _).setCell (Nat.le_refl _) _).setCell (Nat.le_refl _) _⟩

set_option maxRecDepth 100000 in
set_option maxHeartbeats 1000000 in
theorem line_Cm (s : ByteArray) (w : World) (hs : s.size < 4294967281) (c n p : List UInt8) (x : UInt8) (h : cutL 32 s.data.toList = [c, n, [x], [109], p]) (hp : p ≠ [45]) (hd : digitsB (bs p) 6 = true) (hpl : p.length ≤ 9223372036854775807) :
    Calls Tryd.prog 50 #[.string s] w fun e w' => e = .returned (.tuple #[accV ⟨bs c, bs n, kindI x, bs p, true⟩, .bool (decide (0 < kindI x))]) ∧ Below w.heap.size w w' := by
  have hsp := split_blank s
  rw [h] at hsp
  have hs5 : ∀ (W : World), Calls Tryd.prog 82 #[.string s, .string ⟨#[32]⟩] W fun e w' => e = .returned (.slice (some ⟨W.heap.size, 0, none⟩) 5 5) ∧ w' = W.alloc (.cells #[.string (bs c), .string (bs n), .string ⟨#[x]⟩, .string (bs [109]), .string (bs p)] 9) := fun W => hsp W hs
  have hix : ∀ (W : World), Calls Tryd.prog 83 #[.string ⟨#[45, 65, 76, 69, 73, 88]⟩, .string ⟨#[x]⟩] W fun e w' => e = .returned (.int .i64 (kindI x)) ∧ w' = W := fun W => Any.strings_Index_one (P := Tryd.prog) (ρ := Tryd.lays143_ren) Tryd.lays143 ⟨#[45, 65, 76, 69, 73, 88]⟩ x W
  clear hsp h
  have hm1 : ((bs [109]).toList == [109]) = true := by rw [bs_toList]; rfl
  have hp1 : ((bs p).toList == [45]) = false := by rw [bs_toList, beq_eq_false_iff_ne]; exact hp
  have HD := hide hd
  clear hp hd
  have hx1 : ((⟨#[x]⟩ : ByteArray).size : Int) = 1 := rfl
  go_enter Tryd.func50, Tryd.ntmps50
  go_wp2_with (go_at_call 82; refine (hs5 _).mono ?_; rintro e w' ⟨rfl, hw⟩; rw [hw])
  obtain ⟨W1, hW1⟩ : ∃ W1, W1 = ((w.alloc (.cells #[.string ⟨#[]⟩, .string ⟨#[]⟩, .int .i64 0, .string ⟨#[]⟩, .bool false] 29)).alloc (.cells #[.string (bs c), .string (bs n), .string ⟨#[x]⟩, .string (bs [109]), .string (bs p)] 9)) := ⟨_, rfl⟩
  rw [← hW1]
  have hsz : (w.alloc (.cells #[.string ⟨#[]⟩, .string ⟨#[]⟩, .int .i64 0, .string ⟨#[]⟩, .bool false] 29)).heap.size = w.heap.size + 1 := World.size_alloc _ _
  have d0 : W1.cell? ⟨w.heap.size + 1, 0, none⟩ = some (.string (bs c)) := by rw [hW1, ← hsz, World.cell?_alloc_new]; rfl
  have d1 : W1.cell? ⟨w.heap.size + 1, 1, none⟩ = some (.string (bs n)) := by rw [hW1, ← hsz, World.cell?_alloc_new]; rfl
  have d2 : W1.cell? ⟨w.heap.size + 1, 2, none⟩ = some (.string (⟨#[x]⟩)) := by rw [hW1, ← hsz, World.cell?_alloc_new]; rfl
  have d3 : W1.cell? ⟨w.heap.size + 1, 3, none⟩ = some (.string (bs [109])) := by rw [hW1, ← hsz, World.cell?_alloc_new]; rfl
  have d4 : W1.cell? ⟨w.heap.size + 1, 4, none⟩ = some (.string (bs p)) := by rw [hW1, ← hsz, World.cell?_alloc_new]; rfl
  refine wp_region_still_tail 18 (by kernel_rfl) (by kernel_rfl) ?_
  simp only [List.take_succ_cons, List.take_zero, List.drop_succ_cons, List.drop_zero]
  change wpStill _ _ W1.drew _ _ _
  repeat still_step
  still_call (hix _)
  repeat still_step
  refine wpStill_nil ?_
  change wpList _ _ _ _ _ W1.drew
  clear d0 d1 d2 d3 d4 hsz
  subst hW1
  go_wp2_with fail
  refine (digits_any (bs p) 6 _ hpl).mono ?_
  rintro e w2 ⟨rfl, hb2⟩
  rw [HD.out]
  have hr : VRow w2 w.heap.size 29 5 (fun j => #[Value.string (bs c), .string (bs n), .int .i64 (kindI x), .string (bs p), .bool true].getD j undef) := by
    have e := hb2.block w.heap.size (by simp; omega)
    unfold VRow
    rw [e]
    show (World.alloc _ _).heap[_]? = _
    rw [heap_alloc_old _ _ (by simp)]
    exact heap_alloc_new w _
  have hbw : Below w.heap.size w w2 := (bdrewN (((Below.refl _ w).alloc (Nat.le_refl _) _).alloc (by simp) _) 1).trans (hb2.mono (by simp; omega))
  clear hb2
  have c0 : w2.cell? ⟨w.heap.size, 0, none⟩ = some (.string (bs c)) := hr.cell 0 (by omega)
  have c1 : w2.cell? ⟨w.heap.size, 1, none⟩ = some (.string (bs n)) := hr.cell 1 (by omega)
  have c2 : w2.cell? ⟨w.heap.size, 2, none⟩ = some (.int .i64 (kindI x)) := hr.cell 2 (by omega)
  have c3 : w2.cell? ⟨w.heap.size, 3, none⟩ = some (.string (bs p)) := hr.cell 3 (by omega)
  have c4 : w2.cell? ⟨w.heap.size, 4, none⟩ = some (.bool true) := hr.cell 4 (by omega)
  have f0 := hr.frozen 0
  have f1 := hr.frozen 1
  have f2 := hr.frozen 2
  have f3 := hr.frozen 3
  have f4 := hr.frozen 4
  go_wp2_with fail
  have hrf := ((((hr.set_ 0 (.string (bs c))).set_ 1 (.string (bs n))).set_ 2 (.int .i64 (kindI x))).set_ 3 (.string (bs p))).set_ 4 (.bool true)
  refine bodyPost_ret (ret_agg (fn := Tryd.f50) (p := 2) (u := 3) (by rfl) (by rfl) hrf Tryd.underlying29 (cs := #[.string (bs c), .string (bs n), .int .i64 (kindI x), .string (bs p), .bool true]) acc_info) rfl ?_
  exact ⟨rfl, ((((hbw.setCell (Nat.le_refl _) _).setCell (Nat.le_refl _) _).setCell (Nat.le_refl _) _).setCell (Nat.le_refl _) _).setCell (Nat.le_refl _) _⟩

set_option maxRecDepth 100000 in
set_option maxHeartbeats 1000000 in
theorem line_Cn (s : ByteArray) (w : World) (hs : s.size < 4294967281) (c n p : List UInt8) (x : UInt8) (h : cutL 32 s.data.toList = [c, n, [x], [45], p]) (hp : p ≠ [45]) (hd : digitsB (bs p) 6 = true) (hpl : p.length ≤ 9223372036854775807) :
    Calls Tryd.prog 50 #[.string s] w fun e w' => e = .returned (.tuple #[accV ⟨bs c, bs n, kindI x, bs p, false⟩, .bool (decide (0 < kindI x))]) ∧ Below w.heap.size w w' := by
  have hsp := split_blank s
  rw [h] at hsp
  have hs5 : ∀ (W : World), Calls Tryd.prog 82 #[.string s, .string ⟨#[32]⟩] W fun e w' => e = .returned (.slice (some ⟨W.heap.size, 0, none⟩) 5 5) ∧ w' = W.alloc (.cells #[.string (bs c), .string (bs n), .string ⟨#[x]⟩, .string (bs [45]), .string (bs p)] 9) := fun W => hsp W hs
  have hix : ∀ (W : World), Calls Tryd.prog 83 #[.string ⟨#[45, 65, 76, 69, 73, 88]⟩, .string ⟨#[x]⟩] W fun e w' => e = .returned (.int .i64 (kindI x)) ∧ w' = W := fun W => Any.strings_Index_one (P := Tryd.prog) (ρ := Tryd.lays143_ren) Tryd.lays143 ⟨#[45, 65, 76, 69, 73, 88]⟩ x W
  clear hsp h
  have hm1 : ((bs [45]).toList == [109]) = false := by rw [bs_toList]; rfl
  have hm2 : ((bs [45]).toList == [45]) = true := by rw [bs_toList]; rfl
  have hp1 : ((bs p).toList == [45]) = false := by rw [bs_toList, beq_eq_false_iff_ne]; exact hp
  have HD := hide hd
  clear hp hd
  have hx1 : ((⟨#[x]⟩ : ByteArray).size : Int) = 1 := rfl
  go_enter Tryd.func50, Tryd.ntmps50
  go_wp2_with (go_at_call 82; refine (hs5 _).mono ?_; rintro e w' ⟨rfl, hw⟩; rw [hw])
  obtain ⟨W1, hW1⟩ : ∃ W1, W1 = ((w.alloc (.cells #[.string ⟨#[]⟩, .string ⟨#[]⟩, .int .i64 0, .string ⟨#[]⟩, .bool false] 29)).alloc (.cells #[.string (bs c), .string (bs n), .string ⟨#[x]⟩, .string (bs [45]), .string (bs p)] 9)) := ⟨_, rfl⟩
  rw [← hW1]
  have hsz : (w.alloc (.cells #[.string ⟨#[]⟩, .string ⟨#[]⟩, .int .i64 0, .string ⟨#[]⟩, .bool false] 29)).heap.size = w.heap.size + 1 := World.size_alloc _ _
  have d0 : W1.cell? ⟨w.heap.size + 1, 0, none⟩ = some (.string (bs c)) := by rw [hW1, ← hsz, World.cell?_alloc_new]; rfl
  have d1 : W1.cell? ⟨w.heap.size + 1, 1, none⟩ = some (.string (bs n)) := by rw [hW1, ← hsz, World.cell?_alloc_new]; rfl
  have d2 : W1.cell? ⟨w.heap.size + 1, 2, none⟩ = some (.string (⟨#[x]⟩)) := by rw [hW1, ← hsz, World.cell?_alloc_new]; rfl
  have d3 : W1.cell? ⟨w.heap.size + 1, 3, none⟩ = some (.string (bs [45])) := by rw [hW1, ← hsz, World.cell?_alloc_new]; rfl
  have d4 : W1.cell? ⟨w.heap.size + 1, 4, none⟩ = some (.string (bs p)) := by rw [hW1, ← hsz, World.cell?_alloc_new]; rfl
  refine wp_region_still_tail 18 (by kernel_rfl) (by kernel_rfl) ?_
  simp only [List.take_succ_cons, List.take_zero, List.drop_succ_cons, List.drop_zero]
  change wpStill _ _ W1.drew _ _ _
  repeat still_step
  still_call (hix _)
  repeat still_step
  refine wpStill_nil ?_
  change wpList _ _ _ _ _ W1.drew
  clear d0 d1 d2 d3 d4 hsz
  subst hW1
  go_wp2_with fail
  refine (digits_any (bs p) 6 _ hpl).mono ?_
  rintro e w2 ⟨rfl, hb2⟩
  rw [HD.out]
  have hr : VRow w2 w.heap.size 29 5 (fun j => #[Value.string (bs c), .string (bs n), .int .i64 (kindI x), .string (bs p), .bool false].getD j undef) := by
    have e := hb2.block w.heap.size (by simp; omega)
    unfold VRow
    rw [e]
    show (World.alloc _ _).heap[_]? = _
    rw [heap_alloc_old _ _ (by simp)]
    exact heap_alloc_new w _
  have hbw : Below w.heap.size w w2 := (bdrewN (((Below.refl _ w).alloc (Nat.le_refl _) _).alloc (by simp) _) 1).trans (hb2.mono (by simp; omega))
  clear hb2
  have c0 : w2.cell? ⟨w.heap.size, 0, none⟩ = some (.string (bs c)) := hr.cell 0 (by omega)
  have c1 : w2.cell? ⟨w.heap.size, 1, none⟩ = some (.string (bs n)) := hr.cell 1 (by omega)
  have c2 : w2.cell? ⟨w.heap.size, 2, none⟩ = some (.int .i64 (kindI x)) := hr.cell 2 (by omega)
  have c3 : w2.cell? ⟨w.heap.size, 3, none⟩ = some (.string (bs p)) := hr.cell 3 (by omega)
  have c4 : w2.cell? ⟨w.heap.size, 4, none⟩ = some (.bool false) := hr.cell 4 (by omega)
  have f0 := hr.frozen 0
  have f1 := hr.frozen 1
  have f2 := hr.frozen 2
  have f3 := hr.frozen 3
  have f4 := hr.frozen 4
  go_wp2_with fail
  have hrf := ((((hr.set_ 0 (.string (bs c))).set_ 1 (.string (bs n))).set_ 2 (.int .i64 (kindI x))).set_ 3 (.string (bs p))).set_ 4 (.bool false)
  refine bodyPost_ret (ret_agg (fn := Tryd.f50) (p := 2) (u := 3) (by rfl) (by rfl) hrf Tryd.underlying29 (cs := #[.string (bs c), .string (bs n), .int .i64 (kindI x), .string (bs p), .bool false]) acc_info) rfl ?_
  exact ⟨rfl, ((((hbw.setCell (Nat.le_refl _) _).setCell (Nat.le_refl _) _).setCell (Nat.le_refl _) _).setCell (Nat.le_refl _) _).setCell (Nat.le_refl _) _⟩
--LINE END
end Go.Proofs.YthmjkhlndphldaaDoor

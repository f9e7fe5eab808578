/- slices.SortStableFunc over lines: a row of at most twenty of them is put in order. -/
import Derived.Test.YthmjkhlndphldaaGreatDoorSortA
import Derived.Test.YthmjkhlndphldaaGreatDoorSortB
import Derived.Test.YthmjkhlndphldaaGreatDoorShel2
import Derived.LoopN
namespace Go.Proofs.YthmjkhlndphldaaGreatDoor
open Go Go.RowKit
set_option linter.unusedVariables false

instance : Inhabited Line := ⟨⟨⟨#[]⟩, ⟨#[]⟩, 0⟩⟩
theorem ltOf_line : Go.Proofs.ltOf cmpL = fun x y => Key.lt x.key y.key := by
  funext x y
  exact cmpL_lt x y
theorem swo_line : Go.Sort.SWO (Go.Proofs.ltOf cmpL) := by
  rw [ltOf_line]
  exact ⟨fun x => Key.irrefl _, fun x y z h k => Key.trans h k, fun x y z h k => Key.le_trans k h⟩
theorem cmpLays_line (g size : Nat) (w : World) : Go.Proofs.CmpLays Tryz.prog 122 #[] lineEnc 3 cmpL g 0 size w :=
  fun _ _ _ _ x y => compare_line x y _
def lineT : Nat := 35

theorem ins_lines (l : List Line) (g cap n m : Nat) (w : World) (h : RowAt w g 35 3 lineEnc m l) (hn : n = l.length) (hl : n ≤ 20) :
    Calls Tryz.prog 200 #[.slice (some ⟨g, 0, none⟩) n cap, .int .i64 0, .int .i64 n, .func (.func 122) #[] #[]] w
      fun e w' => e = .returned (.tuple #[]) ∧ ∃ s : List Line, s.Perm l ∧ WSort s ∧ RowAt w' g 35 3 lineEnc m s ∧ w.grownBy w' (some g) := by
  subst hn
  have eg : ∀ args w, (callFunc 122 args).run Tryz.prog w = .ok (.enter 122 args) w := enters_of Tryz.func122 (by kernel_rfl) rfl
  have hcon := Go.Proofs.AnyQ.insertionSortCmpFunc Tryz.g200 3 Tryz.isAgg35 Tryz.sizeOf35 lineEnc (fun _ => rfl) lineEnc_ok.one cmpL 122 #[] g 0 cap 0 l.length l.toArray w eg
    (cmpLays_line g _ w) (h.holds lineEnc_ok) h.lt (Nat.zero_le _) (by simp) (by simp; omega)
  change Calls Tryz.prog 200 _ _ _ at hcon
  obtain ⟨hp, hs⟩ := Go.Sort.insertionSort_holds (lt := Go.Proofs.ltOf cmpL) swo_line l.toArray 0 l.length (Nat.zero_le _) (by simp)
  generalize Go.Sort.insertionSort (Go.Proofs.ltOf cmpL) l.toArray 0 l.length = d at hcon hp hs
  refine Calls.mono ?_ (fun e w' (hw : e = .returned (.tuple #[]) ∧ ∃ n os, w' = Go.Proofs.sortWorldK lineEnc 3 w g 0 n d os) => ?_)
  · simpa using hcon
  obtain ⟨rfl, q, os, rfl⟩ := hw
  have hd : d.size = l.length := by rw [hp.1]; simp
  obtain ⟨h1, h2⟩ := h.resorted lineEnc_ok q os d hd
  refine ⟨rfl, d.toList, ?_, ?_, h1, h2⟩
  · have := hp.2.2
    have h3 : (d.extract 0 l.length).toList = d.toList := by rw [← hd]; simp
    rw [h3] at this
    simpa using this
  · rw [WSort, List.pairwise_iff_getElem]
    intro i j hi hj hij
    have h3 := hs i j (Nat.zero_le _) hij (by rw [← hd]; simpa using hj)
    rw [ltOf_line] at h3
    have e1 : d[j]! = d[j]'(by simpa using hj) := getElem!_pos d j _
    have e2 : d[i]! = d[i]'(by simpa using hi) := getElem!_pos d i _
    rw [e1, e2] at h3
    simpa using h3

/-- nothing to sort -/
theorem ins_same (v fv : Value) (a : Nat) (w : World) (ha : a ≤ 20) :
    Calls Tryz.prog 200 #[v, .int .i64 a, .int .i64 a, fv] w fun e w' => e = .returned (.tuple #[]) ∧ w' = w := by
  have h : ¬ ((a : Int) + 1 < (a : Int)) := by omega
  go_enter Tryz.func200, Tryz.ntmps200
  go_wp2_with fail
  refine wp_loop_rounds 1 ?_
  rw [rounds_succ]
  go_wp2_with fail
  go_end0
  exact ⟨rfl, rfl⟩

theorem wsort_short (l : List Line) (h : l.length ≤ 1) : WSort l := by
  match l, h with
  | [], _ => exact List.Pairwise.nil
  | [x], _ => exact List.pairwise_singleton _ _

theorem stable_lines (l : List Line) (g cap n m : Nat) (w : World) (h : RowAt w g 35 3 lineEnc m l) (hn : n = l.length) (hl : n ≤ 20) :
    Calls Tryz.prog 166 #[.slice (some ⟨g, 0, none⟩) n cap, .int .i64 n, .func (.func 122) #[] #[]] w
      fun e w' => e = .returned (.tuple #[]) ∧ ∃ s : List Line, s.Perm l ∧ WSort s ∧ RowAt w' g 35 3 lineEnc m s ∧ w.grownBy w' (some g) := by
  have HN := hide hn
  clear hn
  by_cases h20 : n = 20
  · subst h20
    go_enter Tryz.func166, Tryz.ntmps166
    go_wp2_with fail
    refine wp_loop_rounds 2 ?_
    rw [rounds_succ]
    go_wp2_with fail
    refine (ins_lines l g cap 20 m _ h HN.out hl).mono ?_
    rintro e w1 ⟨rfl, s, hp, hs, hr, hg⟩
    go_wp2_with fail
    rw [rounds_succ]
    go_wp2_with fail
    refine (ins_same _ _ 20 _ (by omega)).mono ?_
    rintro e w2 ⟨rfl, rfl⟩
    go_wp2_with fail
    refine wp_loop_rounds 1 ?_
    rw [rounds_succ]
    go_wp2_with fail
    go_end0
    exact ⟨rfl, s, hp, hs, hr, hg⟩
  · have h1 : ¬ ((20 : Int) ≤ (n : Int)) := by omega
    have h2 : ¬ ((20 : Int) < (n : Int)) := by omega
    go_enter Tryz.func166, Tryz.ntmps166
    go_wp2_with fail
    refine wp_loop_rounds 1 ?_
    rw [rounds_succ]
    go_wp2_with fail
    refine (ins_lines l g cap n m _ h HN.out hl).mono ?_
    rintro e w1 ⟨rfl, s, hp, hs, hr, hg⟩
    go_wp2_with fail
    refine wp_loop_rounds 1 ?_
    rw [rounds_succ]
    go_wp2_with fail
    go_end0
    exact ⟨rfl, s, hp, hs, hr, hg⟩

theorem stable_none (p : Option Addr) (cap : Nat) (w : World) :
    Calls Tryz.prog 166 #[.slice p 0 cap, .int .i64 0, .func (.func 122) #[] #[]] w
      fun e w' => e = .returned (.tuple #[]) ∧ w' = w := by
  go_enter Tryz.func166, Tryz.ntmps166
  go_wp2_with fail
  refine wp_loop_rounds 1 ?_
  rw [rounds_succ]
  go_wp2_with fail
  refine (ins_same _ _ 0 _ (by omega)).mono ?_
  rintro e w1 ⟨rfl, rfl⟩
  go_wp2_with fail
  refine wp_loop_rounds 1 ?_
  rw [rounds_succ]
  go_wp2_with fail
  go_end0
  exact ⟨rfl, rfl⟩

/-- a slice of the call's own is put in order -/
theorem sort_lines (l : List Line) (B : Nat) (v : Value) (w : World) (h : Own w B 35 3 lineEnc v l) (hB : B ≤ w.heap.size) (hl : l.length ≤ 20) :
    Calls Tryz.prog 121 #[v, .func (.func 122) #[] #[]] w
      fun e w' => e = .returned (.tuple #[]) ∧ ∃ s : List Line, s.Perm l ∧ WSort s ∧ Own w' B 35 3 lineEnc v s ∧ Below B w w' := by
  have h' := h
  rcases h.2 with ⟨rfl, h0⟩ | ⟨g, cap, cur, rfl, hBg, hg, hc, hm, hcs, ht⟩
  · have hl0 : l = [] := List.eq_nil_of_length_eq_zero h0
    subst hl0
    go_enter Tryz.func121, Tryz.ntmps121
    go_wp2_with fail
    refine (stable_none _ _ _).mono ?_
    rintro e w1 ⟨rfl, rfl⟩
    go_wp2_with fail
    go_end0
    exact ⟨rfl, [], List.Perm.refl _, List.Pairwise.nil, h', Below.refl _ _⟩
  · have hr : RowAt w g 35 3 lineEnc (cap * 3) l := ⟨cur, hg, hcs, ht⟩
    go_enter Tryz.func121, Tryz.ntmps121
    go_wp2_with fail
    refine (stable_lines l g cap _ _ _ hr rfl hl).mono ?_
    rintro e w1 ⟨rfl, s, hp, hs, hr1, hgr⟩
    go_wp2_with fail
    go_end0
    refine ⟨rfl, s, hp, hs, ?_, (Below.refl _ _).grown hgr hB (fun k e => by injection e with e; omega)⟩
    have hlen := hp.length_eq
    rw [← hlen]
    exact hr1.own lineEnc_ok hBg (by omega) hm
end Go.Proofs.YthmjkhlndphldaaGreatDoor

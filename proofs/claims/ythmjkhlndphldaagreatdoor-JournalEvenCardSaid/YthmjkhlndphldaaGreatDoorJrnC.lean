/- The journal's methods, walked: New, Clone, Len, Of, At, Post. -/
import Derived.Test.YthmjkhlndphldaaGreatDoorJrnP
import Derived.Test.YthmjkhlndphldaaGreatDoorEntG
namespace Go.Proofs.YthmjkhlndphldaaGreatDoor
open Go Go.RowKit
set_option linter.unusedVariables false

theorem int_info : (Tryz.prog.info? 3).map (fun i => (i.zero, i.size, i.bytes)) = some (some (.int .i64 0), 1, 8) := by kernel_rfl
def zeroEnt : Value := .agg #[.string ⟨#[]⟩, .int .i64 0, .int .i64 0, .slice none 0 0]
theorem ent_info : (Tryz.prog.info? 25).map (fun i => (i.zero, i.size, i.bytes)) = some (some zeroEnt, 4, 56) := by kernel_rfl

theorem jlen_any {w : World} {B g m : Nat} {v : Value} {es : List Ent} (h : Jrn w B g m v es) :
    Calls Tryz.prog 29 #[.pointer (some ⟨g, 0, none⟩)] w fun e w' => e = .returned (.int .i64 es.length) ∧ w = w' := by
  obtain ⟨A, c, rfl, h1, h2⟩ := h.few
  have c0 := h.c0
  go_enter Tryz.func29, Tryz.ntmps29
  go_wp2_with fail
  go_ret
  exact ⟨rfl, rfl⟩

theorem jnew_any (w : World) : Calls Tryz.prog 23 #[] w fun e w' => ∃ g m, e = .returned (.pointer (some ⟨g, 0, none⟩)) ∧ Jrn w' w.heap.size g m (.slice none 0 0) [] ∧ Below w.heap.size w w' := by
  have hmm := @run_makeMap Tryz.prog
  have hr : Refs ((w.alloc (.map #[] 0)).alloc (.cells #[.slice none 0 0, .map (some w.heap.size)] 126)) w.heap.size 0 [] := (Refs.made w).below ((Below.refl _ _).alloc (Nat.le_refl _) _)
  have hs : (w.alloc (.map #[] 0)).heap.size = w.heap.size + 1 := by simp
  go_enter Tryz.func23, Tryz.ntmps23
  go_wp2_with fail
  go_ret
  refine ⟨w.heap.size + 1, w.heap.size, rfl, ?_, ((Below.refl _ _).alloc (Nat.le_refl _) _).alloc (by simp) _⟩
  refine ⟨by omega, Nat.le_refl _, by omega, ?_, ?_, ?_, Own.nil _ _ _ _ _, by simp [Value.ownBlock], by simp [Value.ownBlock], hr, fun e he => by cases he⟩
  all_goals rw [← hs]
  all_goals generalize hw1 : w.alloc (.map #[] 0) = w1
  all_goals simp

theorem jclone_any (ref : ByteArray) (ent per : Int) (l : List Line) (A : Option Addr) (n c : Nat) (w : World) (ha : Rd w 3 lineEnc A n l) (hn : n ≤ 20) (hA : A = none → c = 0) :
    Calls Tryz.prog 86 #[.agg #[.string ref, .int .i64 ent, .int .i64 per, .slice A n c]] w
      fun e w' => ∃ VA vc, e = .returned (.agg #[.string ref, .int .i64 ent, .int .i64 per, .slice VA l.length vc]) ∧ Own w' w.heap.size 35 3 lineEnc (.slice VA l.length vc) l ∧ Below w.heap.size w w' := by
  go_enter Tryz.func86, Tryz.ntmps86
  go_wp2_with fail
  have hbx := (EntTwo.new w ref ent per (.slice A n c) (.cells #[.string ⟨#[]⟩, .int .i64 0, .int .i64 0, .slice none 0 0] 25)).1
  have hE0 := (EntTwo.new w ref ent per (.slice A n c) (.cells #[.string ⟨#[]⟩, .int .i64 0, .int .i64 0, .slice none 0 0] 25)).2.1
  have hf0 := (EntTwo.new w ref ent per (.slice A n c) (.cells #[.string ⟨#[]⟩, .int .i64 0, .int .i64 0, .slice none 0 0] 25)).2.2
  have hR0 := EntTwo.res w ref ent per (.slice A n c)
  have hg0 := EntTwo.res2 w ref ent per (.slice A n c)
  generalize (w.alloc (.cells #[.string ref, .int .i64 ent, .int .i64 per, .slice A n c] 25)).alloc (.cells #[.string ⟨#[]⟩, .int .i64 0, .int .i64 0, .slice none 0 0] 25) = W0 at hbx hE0 hf0 hR0 hg0 ⊢
  have hr0 : w.heap.size + 1 < W0.heap.size := World.block_lt_of_cell? _ _ hR0.1
  refine (clone_lines l A n c _ (Rd.below ha hbx) hn hA).mono ?_
  rintro e w1 ⟨v, rfl, hown, hb1⟩
  obtain ⟨VA, vc, rfl, hvc, hvm⟩ := hown.form
  obtain ⟨e0, e1, e2, e3⟩ := hE0.below hb1
  obtain ⟨r0, r1, r2, r3⟩ := hR0.below hb1
  have z3 : w1.frozen? ⟨w.heap.size, 3, none⟩ = false := ((bcell hb1).2 _ 3 (by omega)).trans (hf0 3)
  have zr : ∀ q, w1.frozen? ⟨w.heap.size + 1, q, none⟩ = false := fun q => ((bcell hb1).2 _ q hr0).trans (hg0 q)
  have zr0 := zr 0
  have zr1 := zr 1
  have zr2 := zr 2
  have zr3 := zr 3
  clear zr
  have hb1w : Below w.heap.size w w1 := hbx.trans (hb1.mono hbx.size)
  go_wp2_with fail
  refine bodyPost_ret (v := .agg #[.string ref, .int .i64 ent, .int .i64 per, .slice VA l.length vc]) (by simp [results, Tryz.results86, go_sem, r0, r1, r2, r3]) rfl ⟨_, _, rfl, ?_, ?_⟩
  · have hlow : ∀ q, Value.ownBlock (.slice VA l.length vc) = some q → q ≠ w.heap.size ∧ q ≠ w.heap.size + 1 := fun q e => by have := (hown.block _ e).1; omega
    have hs : ∀ {wq : World} (g o : Nat) (u : Value), (g = w.heap.size ∨ g = w.heap.size + 1) → Own wq W0.heap.size 35 3 lineEnc (.slice VA l.length vc) l → Own (wq.setCell ⟨g, o, none⟩ u) W0.heap.size 35 3 lineEnc (.slice VA l.length vc) l := fun {wq} g o u hg h => h.grown (only_setCell (only_refl wq (some g)) o u) (.inr fun e => by have := hlow _ e; omega)
    exact Own.wider (hs _ _ _ (.inr rfl) (hs _ _ _ (.inr rfl) (hs _ _ _ (.inr rfl) (hs _ _ _ (.inr rfl) (hs _ _ _ (.inl rfl) hown))))) hbx.size
  · exact ((((hb1w.setCell (Nat.le_refl _) _).setCell (Nat.le_succ _) _).setCell (Nat.le_succ _) _).setCell (Nat.le_succ _) _).setCell (Nat.le_succ _) _

set_option maxRecDepth 100000 in
theorem jof_any {w : World} {B g m : Nat} {v : Value} {es : List Ent} (h : Jrn w B g m v es) (hes : es.length ≤ 200) (ent per : Int) :
    Calls Tryz.prog 35 #[.pointer (some ⟨g, 0, none⟩), .int .i64 ent, .int .i64 per] w
      fun e w' => ∃ r, e = .returned r ∧ Own w' w.heap.size 3 1 intEnc r (ofTo es ent per es.length) ∧ Below w.heap.size w w' := by
  obtain ⟨i0, hi0, hz0, hz1, hz2⟩ := info_parts int_info
  obtain ⟨A, c, rfl, h1, h2⟩ := h.few
  have c0 := h.c0
  have hrd := h.own.rd entEnc_ok
  go_enter Tryz.func35, Tryz.ntmps35
  go_wp2_with fail
  have Hes := hide hes
  clear hes
  go_loopw [6, 14] (fun lv iv wr => ∃ k : Nat, k ≤ es.length ∧ iv = .int .i64 k ∧ Own wr w.heap.size 3 1 intEnc lv (ofTo es ent per k) ∧ Below w.heap.size w wr) (fun _ iv _ => es.length - (intOf iv).toNat)
  case atStart => exact ⟨0, by omega, rfl, Own.nil _ _ _ _ _, Below.refl _ _⟩
  case round =>
    obtain ⟨k, hk, rfl, hown, hbr⟩ := hrel
    by_cases hlt : k < es.length
    · obtain ⟨b, off, rfl, hcs⟩ := (Rd.below hrd hbr).2 (by omega)
      have q0 := hcs k 0 _ hlt rfl
      have q1 := hcs k 1 _ hlt rfl
      have q2 := hcs k 2 _ hlt rfl
      have q3 := hcs k 3 _ hlt rfl
      rw [Nat.add_zero] at q0
      clear hcs
      have k0 : (0 : Int) ≤ (k : Int) := by omega
      have k1 : (k : Int) < (es.length : Int) := by omega
      have hlen := ofTo_len es ent per k
      have h200 := Hes.out
      have hsz := hbr.size
      cases h1 : (ent == 0) <;> cases h2 : (es[k].ent == ent) <;> cases h3 : (per == 0) <;> cases h4 : (es[k].per == per)
      all_goals
        have H1 := hide h1
        have H2 := hide h2
        have H3 := hide h3
        have H4 := hide h4
        go_wp2_with (first | (at_builtin; go_loud (refine wpList_push _ rfl _ _ 42 rfl w.heap.size 3 i0 (.int .i64 0) 1 8 Tryz.underlying42 hi0 hz0 hz1 hz2 rfl (by decide) intEnc_ok _ (ofTo es ent per k) rfl ((hown.alloc _).alloc _) _ 1 1 [(k : Int)] rfl (Rd.boxedAt _ intEnc_ok (k : Int) _ _ rfl _ (by simp)) (by intro h; cases h) (by simp only [maxLen]; omega) (by omega) (by simp; omega) ?_); intro v' w3 hown3 hg3 hat3))
        go_roundw
        case measure => simp [intOf]; omega
        case rel =>
          first
            | exact ⟨k + 1, by omega, by go_num, by rw [ofTo_yes hlt (by simp only [ofB, H1.out, H2.out, H3.out, H4.out]; rfl)]; exact hown3, ((hbr.alloc hsz _).alloc (by simp; omega) _).grown hg3 (by simp; omega) (fun q e => (hown.block q e).1)⟩
            | exact ⟨k + 1, by omega, by go_num, by rw [ofTo_no hlt (by simp only [ofB, H1.out, H2.out, H3.out, H4.out]; rfl)]; exact hown.alloc _, hbr.alloc hsz _⟩
    · go_wp2_with fail
      have hkn : k = es.length := by omega
      subst hkn
      go_ret
      exact ⟨_, rfl, hown, hbr⟩
end Go.Proofs.YthmjkhlndphldaaGreatDoor

/- Numbers of 32-bit words: NewInt, Add, Sub, Cmp. -/
import Derived.Test.YthmjkhlndphldaaGreatDoorQbB
import Derived.StillTailTactics
import Derived.Deep.RegionHeld3
import Derived.Deep.RegionLaw
import Derived.Deep.AppendLies
namespace Go.Proofs.YthmjkhlndphldaaGreatDoor
open Go Go.RowKit
set_option linter.unusedVariables false

/-- a number by its sign and size -/
def sgn (s : Bool) (p : Nat) : Int := if s = true then -(p : Int) else (p : Int)
theorem sgn_of (x : Int) : sgn (decide (x < 0)) x.natAbs = x := by
  unfold sgn
  by_cases h : x < 0
  · rw [if_pos (by simpa using h)]; omega
  · rw [if_neg (by simpa using h)]; omega
theorem sgn_not (s : Bool) (p : Nat) : sgn (!s) p = -sgn s p := by
  unfold sgn; cases s <;> simp
/-- of a sum: what is handed back -/
def GivesQ (w : World) (r : Int) (e : Ending) (w' : World) : Prop :=
  ∃ (s : Bool) (M g c : Nat), e = .returned (.tuple #[.bool s, .slice (some ⟨g, 0, none⟩) (qdigs M).length c]) ∧ sgn s M = r ∧ Rd w' 1 uEnc (some ⟨g, 0, none⟩) (qdigs M).length (qdigs M) ∧ (qdigs M).length ≤ c ∧ w.heap.size ≤ g ∧ Below w.heap.size w w'

set_option maxRecDepth 100000 in
theorem qsum_any (s t : Bool) (p q : Nat) (A YA : Option Addr) (n c m d : Nat) (w : World) (ha : Rd w 1 uEnc A n (qdigs p)) (hb : Rd w 1 uEnc YA m (qdigs q)) (hn : n ≤ 900) (hm : m ≤ 900) :
    Calls Tryz.prog 92 #[.bool s, .slice A n c, .bool t, .slice YA m d] w (GivesQ w (sgn s p + sgn t q)) := by
  by_cases hst : s = t
  · subst hst
    have h1 : (s == s) = true := by cases s <;> rfl
    go_enter Tryz.func92, Tryz.ntmps92
    go_wp2_with fail
    refine (qadd_any (qdigs p) (qdigs q) A YA n c m d _ (qdigs_dig p) (qdigs_dig q) ha hb (by omega) (by omega)).mono ?_
    rintro e w1 ⟨g, c', rfl, hr, hc, hg, hb1⟩
    rw [qval_digs, qval_digs] at hr hc ⊢
    go_wp2_with fail
    go_ret2
    exact ⟨s, p + q, g, c', rfl, by unfold sgn; cases s <;> simp <;> omega, hr, hc, hg, hb1⟩
  · have h1 : (s == t) = false := by cases s <;> cases t <;> simp_all
    by_cases hpq : q ≤ p
    · have hc : (0 : Int) ≤ qcmp p q := by unfold qcmp; split <;> (try split) <;> omega
      have hmn : m ≤ n := by have e1 := ha.1; have e2 := hb.1; have := qdigs_mono p q hpq; omega
      obtain ⟨z, hz⟩ : ∃ z, z = qcmp p q := ⟨_, rfl⟩
      have HZ := hide hz
      rw [← hz] at hc
      clear hz
      go_enter Tryz.func92, Tryz.ntmps92
      go_wp2_with fail
      refine (qcmp_any p q A YA n c m d _ ha hb (by omega) (by omega)).mono ?_
      rintro e w1 ⟨rfl, hb1⟩
      rw [← HZ.out]
      go_wp2_with fail
      refine (qsub_any (qdigs p) (qdigs q) A YA n c m d _ (qdigs_dig p) (qdigs_dig q) (ha.below hb1) (hb.below hb1) hmn (by omega) (by rw [qval_digs, qval_digs]; exact hpq)).mono ?_
      rintro e w2 ⟨g, c', rfl, hr, hc', hg, hb2⟩
      rw [qval_digs, qval_digs] at hr hc' ⊢
      have hs1 := hb1.size
      go_wp2_with fail
      go_ret2
      exact ⟨s, p - q, g, c', rfl, by unfold sgn; cases s <;> cases t <;> simp_all <;> omega, hr, hc', by omega, bthen hb1 (Nat.le_refl _) hb2⟩
    · have hc : ¬ (0 : Int) ≤ qcmp p q := by unfold qcmp; rw [if_pos (by omega)]; omega
      have hmn : n ≤ m := by have e1 := ha.1; have e2 := hb.1; have := qdigs_mono q p (by omega); omega
      obtain ⟨z, hz⟩ : ∃ z, z = qcmp p q := ⟨_, rfl⟩
      have HZ := hide hz
      rw [← hz] at hc
      clear hz
      go_enter Tryz.func92, Tryz.ntmps92
      go_wp2_with fail
      refine (qcmp_any p q A YA n c m d _ ha hb (by omega) (by omega)).mono ?_
      rintro e w1 ⟨rfl, hb1⟩
      rw [← HZ.out]
      go_wp2_with fail
      refine (qsub_any (qdigs q) (qdigs p) YA A m d n c _ (qdigs_dig q) (qdigs_dig p) (hb.below hb1) (ha.below hb1) hmn (by omega) (by rw [qval_digs, qval_digs]; omega)).mono ?_
      rintro e w2 ⟨g, c', rfl, hr, hc', hg, hb2⟩
      rw [qval_digs, qval_digs] at hr hc' ⊢
      have hs1 := hb1.size
      go_wp2_with fail
      go_ret2
      exact ⟨t, q - p, g, c', rfl, by unfold sgn; cases s <;> cases t <;> simp_all <;> omega, hr, hc', by omega, bthen hb1 (Nat.le_refl _) hb2⟩

theorem qset_any (x : Int) (g : Nat) (u0 u1 : Value) (w : World) (B : Nat) (hB : B ≤ g) (h0 : -9223372036854775808 ≤ x) (h1 : x ≤ 9223372036854775807) (hu0 : u0.oneCell' = true) (hu1 : u1.oneCell' = true)
    (c0 : w.cell? ⟨g, 0, none⟩ = some u0) (c1 : w.cell? ⟨g, 1, none⟩ = some u1) (fr : ∀ o, w.frozen? ⟨g, o, none⟩ = false) :
    Calls Tryz.prog 137 #[.pointer (some ⟨g, 0, none⟩), .int .i64 x] w
      fun e w' => e = .returned (.pointer (some ⟨g, 0, none⟩)) ∧ QAt w' B g x ∧ Below B w w' := by
  have hg : g < w.heap.size := World.block_lt_of_cell? _ _ c0
  have hfin : ∀ (w1 : World) (c : Nat), Below w.heap.size w w1 → Rd w1 1 uEnc (some ⟨w.heap.size, 0, none⟩) (qdigs x.natAbs).length (qdigs x.natAbs) → (qdigs x.natAbs).length ≤ c →
      Calls Tryz.prog 91 #[.pointer (some ⟨g, 0, none⟩), .bool (decide (x < 0)), .slice (some ⟨w.heap.size, 0, none⟩) (qdigs x.natAbs).length c] w1
        fun e w' => e = .returned (.pointer (some ⟨g, 0, none⟩)) ∧ QAt w' B g x ∧ Below B w w' := by
    intro w1 c hb1 hr hc
    refine (qgive_any (decide (x < 0)) _ g c _ u0 u1 w1 hu0 hu1 (below_cell hb1 hg c0) (below_cell hb1 hg c1) (fun o => (hb1.frozen (p := ⟨g, o, none⟩) hg).trans (fr o))).mono ?_
    rintro e w2 ⟨rfl, k, rfl⟩
    have hQ := QAt.put (neg := decide (x < 0)) hB (below_cell hb1 hg c0) (below_cell hb1 hg c1) (fun o => (hb1.frozen (p := ⟨g, o, none⟩) hg).trans (fr o)) hr (fun a o s e => by injection e with e; injection e with e; omega) hc
    have hx := sgn_of x
    unfold sgn at hx
    rw [hx] at hQ
    exact ⟨rfl, hQ.below (bdrewN (Below.refl _ _) k), bdrewN (((hb1.mono (by omega)).setCell hB _).setCell hB _) k⟩
  by_cases hx : x < 0
  · have hd : decide (x < 0) = true := by simpa using hx
    have hw := wrap_neg x h0 hx
    rw [hd] at hfin
    have HF := hide hfin
    clear hfin
    go_enter Tryz.func137, Tryz.ntmps137
    go_wp2_with fail
    refine (qwords_any x.natAbs (by omega) _).mono ?_
    rintro e w1 ⟨c, rfl, hr, hc, hb1⟩
    go_wp2_with fail
    refine (HF.out w1 c hb1 hr hc).mono ?_
    rintro e w2 ⟨rfl, hQ, hb2⟩
    go_wp2_with fail
    go_ret
    exact ⟨rfl, hQ, hb2⟩
  · obtain ⟨m, rfl⟩ : ∃ m : Nat, x = m := ⟨x.natAbs, by omega⟩
    have hd : decide ((m : Int) < 0) = false := by simp
    rw [hd, Int.natAbs_natCast] at hfin
    have HF := hide hfin
    clear hfin
    go_enter Tryz.func137, Tryz.ntmps137
    go_wp2_with fail
    refine (qwords_any m (by omega) _).mono ?_
    rintro e w1 ⟨c, rfl, hr, hc, hb1⟩
    go_wp2_with fail
    refine (HF.out w1 c hb1 hr hc).mono ?_
    rintro e w2 ⟨rfl, hQ, hb2⟩
    go_wp2_with fail
    go_ret
    exact ⟨rfl, hQ, hb2⟩
theorem qnew_any (x : Int) (w : World) (h0 : -9223372036854775808 ≤ x) (h1 : x ≤ 9223372036854775807) :
    Calls Tryz.prog 90 #[.int .i64 x] w fun e w' => ∃ g, e = .returned (.pointer (some ⟨g, 0, none⟩)) ∧ QAt w' w.heap.size g x ∧ Below w.heap.size w w' := by
  go_enter Tryz.func90, Tryz.ntmps90
  go_wp2_with fail
  have c0 : (w.alloc (.cells #[.bool false, .slice none 0 0] 142)).cell? ⟨w.heap.size, 0, none⟩ = some (.bool false) := by simp
  have c1 : (w.alloc (.cells #[.bool false, .slice none 0 0] 142)).cell? ⟨w.heap.size, 1, none⟩ = some (.slice none 0 0) := by simp
  refine (qset_any x w.heap.size _ _ _ w.heap.size (Nat.le_refl _) h0 h1 rfl rfl c0 c1 (fun o => by simp)).mono ?_
  rintro e w1 ⟨rfl, hQ, hb⟩
  go_wp2_with fail
  go_ret
  exact ⟨_, rfl, hQ, ((Below.refl _ _).alloc (Nat.le_refl _) _).trans hb⟩
theorem refBig_any (x : Int) (w : World) (h0 : -9223372036854775808 ≤ x) (h1 : x ≤ 9223372036854775807) :
    Calls Tryz.prog 32 #[.int .i64 x] w fun e w' => ∃ g, e = .returned (.pointer (some ⟨g, 0, none⟩)) ∧ QAt w' w.heap.size g x ∧ Below w.heap.size w w' := by
  go_enter Tryz.func32, Tryz.ntmps32
  go_wp2_with fail
  refine (qnew_any x _ h0 h1).mono ?_
  rintro e w1 ⟨g, rfl, hQ, hb⟩
  go_wp2_with fail
  go_ret
  exact ⟨g, rfl, hQ, hb⟩
theorem qdigs_3 {n : Nat} (h : n < 79228162514264337593543950336) : (qdigs n).length ≤ 3 := by
  by_cases h0 : n = 0
  · subst h0; rw [qdigs_0]; decide
  · rw [qdigs_s h0, List.length_cons]
    by_cases h1 : n / 4294967296 = 0
    · rw [h1, qdigs_0]; decide
    · rw [qdigs_s h1, List.length_cons]
      by_cases h2 : n / 4294967296 / 4294967296 = 0
      · rw [h2, qdigs_0]; decide
      · rw [qdigs_s h2, List.length_cons, show n / 4294967296 / 4294967296 / 4294967296 = 0 from by omega, qdigs_0]; decide

set_option maxHeartbeats 4000000 in
set_option maxRecDepth 100000 in
theorem qAdd_any {w : World} {B By g gy : Nat} {x y : Int} (hX : QAt w B g x) (hY : QAt w By gy y) (hB : B ≤ w.heap.size) (hx : x.natAbs < 79228162514264337593543950336) (hy : y.natAbs < 79228162514264337593543950336) :
    Calls Tryz.prog 33 #[.pointer (some ⟨g, 0, none⟩), .pointer (some ⟨g, 0, none⟩), .pointer (some ⟨gy, 0, none⟩)] w
      fun e w' => e = .returned (.pointer (some ⟨g, 0, none⟩)) ∧ QAt w' B g (x + y) ∧ Below B w w' := by
  have c0 := hX.c0
  obtain ⟨A, c, c1, ha, hne, hc⟩ := hX.wds
  have d0 := hY.c0
  obtain ⟨YA, d, d1, hb, hne2, hd⟩ := hY.wds
  have hn := qdigs_3 hx
  have hm := qdigs_3 hy
  have hSum := qsum_any (decide (x < 0)) (decide (y < 0)) x.natAbs y.natAbs A YA _ c _ d w.drew (ha.below (bdrewN (Below.refl _ w) 1)) (hb.below (bdrewN (Below.refl _ w) 1)) (by omega) (by omega)
  rw [sgn_of, sgn_of] at hSum
  have HS := hide hSum
  have hgl : g < w.drew.heap.size := hX.lt
  have hgyl : gy < w.drew.heap.size := hY.lt
  clear hSum hx hy ha hb
  obtain ⟨bx, hbx⟩ : ∃ bx, bx = decide (x < 0) := ⟨_, rfl⟩
  obtain ⟨bY, hbY⟩ : ∃ bY, bY = decide (y < 0) := ⟨_, rfl⟩
  rw [← hbx] at c0 HS
  rw [← hbY] at d0 HS
  clear hbx hbY
  go_enter Tryz.func33, Tryz.ntmps33
  go_wp2_with fail
  go_region_law (first
      | (go_simp; go_at_call 92; refine HS.out.mono ?_; rintro e w1 ⟨s, M, g1, c', rfl, hsg, hr, hle, hg1, hb1⟩; have k0 := below_cell hb1 hgl c0; have k1 := below_cell hb1 hgl c1; have k2 := below_cell hb1 hgyl d0; have k3 := below_cell hb1 hgyl d1)
      | (go_simp; go_at_call 91; refine (qgive_any s _ g c' _ _ _ _ rfl rfl k0 k1 (fun o => (hb1.frozen (p := ⟨g, o, none⟩) hgl).trans (hX.fr o))).mono ?_; rintro e w2 ⟨rfl, k, rfl⟩))
  all_goals
    go_wp2_with fail
    go_ret
    have hbw : Below w.heap.size w w1 := (bdrewN (Below.refl _ w) 1).trans hb1
    have hQ := QAt.put (neg := s) hX.gB k0 k1 (fun o => (hb1.frozen (p := ⟨g, o, none⟩) hgl).trans (hX.fr o)) hr (fun a o z e => by injection e with e; injection e with e; have : g < w.heap.size := hgl; have : w.heap.size ≤ g1 := hg1; omega) hle
    unfold sgn at hsg
    rw [hsg] at hQ
    exact ⟨rfl, hQ.below (bdrewN (Below.refl _ _) k), bdrewN (((hbw.mono hB).setCell hX.gB _).setCell hX.gB _) k⟩

set_option maxHeartbeats 4000000 in
set_option maxRecDepth 100000 in
theorem qSub_any {w : World} {B By g gy : Nat} {x y : Int} (hX : QAt w B g x) (hY : QAt w By gy y) (hB : B ≤ w.heap.size) (hx : x.natAbs < 79228162514264337593543950336) (hy : y.natAbs < 79228162514264337593543950336) :
    Calls Tryz.prog 34 #[.pointer (some ⟨g, 0, none⟩), .pointer (some ⟨g, 0, none⟩), .pointer (some ⟨gy, 0, none⟩)] w
      fun e w' => e = .returned (.pointer (some ⟨g, 0, none⟩)) ∧ QAt w' B g (x - y) ∧ Below B w w' := by
  have c0 := hX.c0
  obtain ⟨A, c, c1, ha, hne, hc⟩ := hX.wds
  have d0 := hY.c0
  obtain ⟨YA, d, d1, hb, hne2, hd⟩ := hY.wds
  have hn := qdigs_3 hx
  have hm := qdigs_3 hy
  have hSum := qsum_any (decide (x < 0)) (!decide (y < 0)) x.natAbs y.natAbs A YA _ c _ d w.drew (ha.below (bdrewN (Below.refl _ w) 1)) (hb.below (bdrewN (Below.refl _ w) 1)) (by omega) (by omega)
  rw [sgn_of, sgn_not, sgn_of, ← Int.sub_eq_add_neg] at hSum
  have HS := hide hSum
  have hgl : g < w.drew.heap.size := hX.lt
  have hgyl : gy < w.drew.heap.size := hY.lt
  clear hSum hx hy ha hb
  obtain ⟨bx, hbx⟩ : ∃ bx, bx = decide (x < 0) := ⟨_, rfl⟩
  obtain ⟨bY, hbY⟩ : ∃ bY, bY = decide (y < 0) := ⟨_, rfl⟩
  rw [← hbx] at c0 HS
  rw [← hbY] at d0 HS
  clear hbx hbY
  go_enter Tryz.func34, Tryz.ntmps34
  go_wp2_with fail
  go_region_law (first
      | (go_simp; go_at_call 92; refine HS.out.mono ?_; rintro e w1 ⟨s, M, g1, c', rfl, hsg, hr, hle, hg1, hb1⟩; have k0 := below_cell hb1 hgl c0; have k1 := below_cell hb1 hgl c1; have k2 := below_cell hb1 hgyl d0; have k3 := below_cell hb1 hgyl d1)
      | (go_simp; go_at_call 91; refine (qgive_any s _ g c' _ _ _ _ rfl rfl k0 k1 (fun o => (hb1.frozen (p := ⟨g, o, none⟩) hgl).trans (hX.fr o))).mono ?_; rintro e w2 ⟨rfl, k, rfl⟩))
  all_goals
    go_wp2_with fail
    go_ret
    have hbw : Below w.heap.size w w1 := (bdrewN (Below.refl _ w) 1).trans hb1
    have hQ := QAt.put (neg := s) hX.gB k0 k1 (fun o => (hb1.frozen (p := ⟨g, o, none⟩) hgl).trans (hX.fr o)) hr (fun a o z e => by injection e with e; injection e with e; have : g < w.heap.size := hgl; have : w.heap.size ≤ g1 := hg1; omega) hle
    unfold sgn at hsg
    rw [hsg] at hQ
    exact ⟨rfl, hQ.below (bdrewN (Below.refl _ _) k), bdrewN (((hbw.mono hB).setCell hX.gB _).setCell hX.gB _) k⟩

end Go.Proofs.YthmjkhlndphldaaGreatDoor

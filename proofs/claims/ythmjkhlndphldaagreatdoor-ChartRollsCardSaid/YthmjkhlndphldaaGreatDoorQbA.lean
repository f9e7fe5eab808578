/- Numbers of 32-bit words: trim, words. -/
import Derived.Test.YthmjkhlndphldaaGreatDoorQbP
import Derived.Test.YthmjkhlndphldaaGreatDoorBigI
import Derived.Deep.QuietTactic
import Derived.BigQuiet
namespace Go.Proofs.YthmjkhlndphldaaGreatDoor
open Go Go.RowKit
set_option linter.unusedVariables false

def uEnc (n : Nat) : List Value := [.int .u32 (n : Int)]
theorem uEnc_ok : Enc 1 uEnc := ⟨fun _ => rfl, by
  intro a u hu
  simp only [uEnc, List.mem_singleton] at hu
  subst hu; rfl⟩
theorem u32_info : (Tryz.prog.info? 185).map (fun i => (i.zero, i.size, i.bytes)) = some (some (.int .u32 0), 1, 4) := by kernel_rfl

theorem qtrim_any (ws : List Nat) (hd : QDig ws) (g n c : Nat) (w : World) (h : Rd w 1 uEnc (some ⟨g, 0, none⟩) n ws) (hn : n ≤ 1000) (hnc : n ≤ c) :
    Calls Tryz.prog 180 #[.slice (some ⟨g, 0, none⟩) n c] w
      fun e w' => e = .returned (.slice (some ⟨g, 0, none⟩) (qdigs (qval ws)).length c) ∧ Rd w 1 uEnc (some ⟨g, 0, none⟩) (qdigs (qval ws)).length (qdigs (qval ws)) ∧ ∃ n, w' = w.drewN n := by
  have Hn := hide h.1
  have hcell : ∀ (i : Nat) (hi : i < ws.length), w.cell? ⟨g, i, none⟩ = some (.int .u32 (ws[i] : Int)) := by
    intro i hi
    obtain ⟨b, off, e, hc⟩ := h.2 (by have := h.1; omega)
    injection e with e
    injection e with e1 e2
    subst e1 e2
    have := hc i 0 _ hi rfl
    rwa [Nat.zero_add, Nat.mul_one, Nat.add_zero] at this
  have hfin : ∀ k, k ≤ n → ZeroFrom ws k → (∀ (h0 : 0 < k) (hk : k - 1 < ws.length), ws[k - 1] ≠ 0) → k = (qdigs (qval ws)).length ∧ Rd w 1 uEnc (some ⟨g, 0, none⟩) (qdigs (qval ws)).length (qdigs (qval ws)) := by
    intro k hk hz hl
    have e := qtrim_eq hd (n := k) (by have := h.1; omega) (fun j hj hkj => hz j hj hkj) (fun h0 => hl h0 _)
    have e2 : (qdigs (qval ws)).length = k := by rw [← e, List.length_take]; have := h.1; omega
    rw [e2, ← e]
    exact ⟨rfl, h.take hk⟩
  go_enter Tryz.func180, Tryz.ntmps180
  go_wp2_with fail
  go_loopw [3] (fun iv wr => ∃ k : Nat, k ≤ n ∧ iv = .int .i64 k ∧ ZeroFrom ws k ∧ ∃ n, wr = w.drewN n) (fun iv _ => (intOf iv).toNat)
  case atStart => exact ⟨n, Nat.le_refl _, rfl, (fun i hi h => absurd h (by have := Hn.out; omega)), 0, rfl⟩
  case round =>
    obtain ⟨k, hk, rfl, hz, m, rfl⟩ := hrel
    have HZ := hide hz
    clear hz
    by_cases hk0 : k = 0
    · subst hk0
      obtain ⟨h1, h2⟩ := hfin 0 hk HZ.out (fun h => absurd h (by omega))
      have H1 := hide h1
      clear h1 hfin
      go_wp2_with fail
      go_ret
      exact ⟨by rw [← H1.out]; rfl, h2, m, rfl⟩
    · obtain ⟨j, rfl⟩ : ∃ j, k = j + 1 := ⟨k - 1, by omega⟩
      have hjl : j < ws.length := by have := Hn.out; omega
      have hc : (w.drewN m).cell? ⟨g, j, none⟩ = some (.int .u32 (ws[j] : Int)) := hcell j hjl
      have j0 : (0 : Int) < ((j + 1 : Nat) : Int) := by omega
      have j1 : (0 : Int) ≤ (j : Int) := by omega
      have j2 : (j : Int) < (n : Int) := by omega
      by_cases hw : ws[j] = 0
      · rw [hw] at hc
        have HS : Hid (ZeroFrom ws j) := by
          intro i hi hji
          by_cases e : i = j
          · subst e; exact hw
          · exact HZ.out i hi (by omega)
        clear hw hfin
        go_wp2_with fail
        go_roundw
        case rel => exact ⟨j, by omega, by go_num, HS.out, m, rfl⟩
        case measure => simp [intOf]
      · have hb : ((ws[j] : Int) == 0) = false := by rw [beq_eq_false_iff_ne]; omega
        have hb2 : (ws[j] == 0) = false := by rw [beq_eq_false_iff_ne]; exact hw
        obtain ⟨h1, h2⟩ := hfin (j + 1) hk HZ.out (fun _ _ => hw)
        have hjc : (j : Int) + 1 ≤ (c : Int) := by omega
        have H1 := hide h1
        clear hw h1 hfin
        go_wp2_with fail
        go_ret
        exact ⟨by rw [← H1.out]; rfl, h2, m, rfl⟩

theorem qdigs_le : ∀ l : List Nat, QDig l → (qdigs (qval l)).length ≤ l.length := by
  intro l
  induction l with
  | nil => intro _; rw [qval, qdigs_0]; exact Nat.le_refl _
  | cons d l ih =>
    intro h
    have h1 := ih h.tail
    have h2 := h d (by simp)
    rw [qval]
    by_cases h0 : d + 4294967296 * qval l = 0
    · rw [h0, qdigs_0]; exact Nat.zero_le _
    · rw [qdigs_s h0, show (d + 4294967296 * qval l) / 4294967296 = qval l from by omega, List.length_cons, List.length_cons]; omega
theorem u32_lo (x : Nat) : IntKind.u32.wrap (x : Int) = ((x % 4294967296 : Nat) : Int) := by
  simp only [IntKind.wrap, IntKind.bits, IntKind.signed]
  simp
theorem qwords_any (x : Nat) (hx : x < 18446744073709551616) (w : World) :
    Calls Tryz.prog 179 #[.int .u64 (x : Int)] w
      fun e w' => ∃ c, e = .returned (.slice (some ⟨w.heap.size, 0, none⟩) (qdigs x).length c) ∧ Rd w' 1 uEnc (some ⟨w.heap.size, 0, none⟩) (qdigs x).length (qdigs x) ∧ (qdigs x).length ≤ c ∧ Below w.heap.size w w' := by
  go_enter Tryz.func179, Tryz.ntmps179
  go_wp2_with fail
  have hd : QDig [x % 4294967296, x / 4294967296] := by
    intro y hy
    simp only [List.mem_cons, List.not_mem_nil, or_false] at hy
    omega
  have hv : qval [x % 4294967296, x / 4294967296] = x := by simp only [qval]; omega
  refine (qtrim_any [x % 4294967296, x / 4294967296] hd _ 2 2 _ (Rd.lit w uEnc_ok _ 2 rfl _ _ (by simp [uEnc])) (by omega) (by omega)).mono ?_
  rintro e w1 ⟨rfl, hr, m, rfl⟩
  have hle : (qdigs x).length ≤ 2 := by have := qdigs_le _ hd; rw [hv] at this; exact this
  rw [hv] at hr ⊢
  go_wp2_with fail
  go_ret
  exact ⟨_, rfl, hr.below (bdrewN (Below.refl _ _) m), hle, bdrewN ((Below.refl _ _).alloc (Nat.le_refl _) _) m⟩

/-- a number of the kit's own: its cells at the block g -/
structure QAt (w : World) (B g : Nat) (x : Int) : Prop where
  gB : B ≤ g
  c0 : w.cell? ⟨g, 0, none⟩ = some (.bool (decide (x < 0)))
  fr : ∀ o, w.frozen? ⟨g, o, none⟩ = false
  wds : ∃ A c, w.cell? ⟨g, 1, none⟩ = some (.slice A (qdigs x.natAbs).length c) ∧ Rd w 1 uEnc A (qdigs x.natAbs).length (qdigs x.natAbs) ∧ (∀ a o s, A = some ⟨a, o, s⟩ → a ≠ g) ∧ (qdigs x.natAbs).length ≤ c
theorem QAt.lt {w : World} {B g : Nat} {x : Int} (h : QAt w B g x) : g < w.heap.size := World.block_lt_of_cell? _ _ h.c0
theorem QAt.below {w w' : World} {B g : Nat} {x : Int} (h : QAt w B g x) (hb : Below w.heap.size w w') : QAt w' B g x := by
  obtain ⟨A, c, h1, h2, h3, h4⟩ := h.wds
  exact ⟨h.gB, below_cell hb h.lt h.c0, fun o => (hb.frozen (p := ⟨g, o, none⟩) h.lt).trans (h.fr o), A, c, below_cell hb h.lt h1, h2.below hb, h3, h4⟩
theorem QAt.wider {w : World} {B B' g : Nat} {x : Int} (h : QAt w B g x) (hB : B' ≤ B) : QAt w B' g x := ⟨Nat.le_trans hB h.gB, h.c0, h.fr, h.wds⟩
theorem Rd.set_other {α : Type} {enc : α → List Value} {w : World} {sz n g o : Nat} {A : Option Addr} {l : List α} {u : Value} (h : Rd w sz enc A n l) (hne : ∀ a o s, A = some ⟨a, o, s⟩ → a ≠ g) : Rd (w.setCell ⟨g, o, none⟩ u) sz enc A n l := by
  refine ⟨h.1, fun h0 => ?_⟩
  obtain ⟨b, off, e, hc⟩ := h.2 h0
  refine ⟨b, off, e, fun i j v hi hv => ?_⟩
  have hb := hne b off none e
  rw [World.cell?_setCell_other _ _ _ _ (by first | (simp; done) | (simp; intro e; exact absurd e hb))]
  exact hc i j v hi hv
theorem qneg_dec (neg : Bool) (m : Nat) : (neg && decide (0 < (qdigs m).length)) = decide ((if neg = true then -(m : Int) else (m : Int)) < 0) := by
  by_cases h : m = 0
  · subst h; rw [qdigs_0]; cases neg <;> simp
  · rw [qdigs_s h]
    cases neg
    · simp
    · simp; omega
theorem QAt.put {w : World} {B g m c : Nat} {neg : Bool} {A : Option Addr} {u0 u1 : Value} (hB : B ≤ g) (c0 : w.cell? ⟨g, 0, none⟩ = some u0) (c1 : w.cell? ⟨g, 1, none⟩ = some u1) (fr : ∀ o, w.frozen? ⟨g, o, none⟩ = false)
    (h : Rd w 1 uEnc A (qdigs m).length (qdigs m)) (hne : ∀ a o s, A = some ⟨a, o, s⟩ → a ≠ g) (hc : (qdigs m).length ≤ c) :
    QAt ((w.setCell ⟨g, 1, none⟩ (.slice A (qdigs m).length c)).setCell ⟨g, 0, none⟩ (.bool (neg && decide (0 < (qdigs m).length)))) B g (if neg = true then -(m : Int) else (m : Int)) := by
  have hg : g < w.heap.size := World.block_lt_of_cell? _ _ c0
  have ha : (if neg = true then -(m : Int) else (m : Int)).natAbs = m := by cases neg <;> simp
  have e0 : (w.setCell ⟨g, 1, none⟩ (.slice A (qdigs m).length c)).cell? ⟨g, 0, none⟩ = some u0 := (World.cell?_setCell_other _ _ _ _ (by simp)).trans c0
  refine ⟨hB, ?_, fun o => by simp [fr o], A, c, ?_, ?_, hne, by rw [ha]; exact hc⟩
  · rw [World.cell?_setCell_same _ _ _ e0, qneg_dec]
  · rw [World.cell?_setCell_other _ _ _ _ (by simp), World.cell?_setCell_same _ _ _ c1, ha]
  · rw [ha]; exact (h.set_other hne).set_other hne

theorem qgive_any (neg : Bool) (m g c : Nat) (A : Option Addr) (u0 u1 : Value) (w : World) (hu0 : u0.oneCell' = true) (hu1 : u1.oneCell' = true) (c0 : w.cell? ⟨g, 0, none⟩ = some u0) (c1 : w.cell? ⟨g, 1, none⟩ = some u1) (fr : ∀ o, w.frozen? ⟨g, o, none⟩ = false) :
    Calls Tryz.prog 91 #[.pointer (some ⟨g, 0, none⟩), .bool neg, .slice A m c] w
      fun e w' => e = .returned (.pointer (some ⟨g, 0, none⟩)) ∧ ∃ n, w' = ((w.setCell ⟨g, 1, none⟩ (.slice A m c)).setCell ⟨g, 0, none⟩ (.bool (neg && decide (0 < m)))).drewN n := by
  have f0 := fr 0
  have f1 := fr 1
  have hd : decide ((0 : Int) < (m : Int)) = decide (0 < m) := by by_cases h : 0 < m <;> simp [h]
  clear fr
  cases neg
  · go_enter Tryz.func91, Tryz.ntmps91
    go_wp2_with fail
    go_ret
    exact ⟨rfl, 0, rfl⟩
  · go_enter Tryz.func91, Tryz.ntmps91
    go_wp2_with fail
    go_ret
    exact ⟨rfl, 0, rfl⟩
end Go.Proofs.YthmjkhlndphldaaGreatDoor

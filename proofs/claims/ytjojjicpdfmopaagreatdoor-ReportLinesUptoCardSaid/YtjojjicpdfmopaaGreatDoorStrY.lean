/- One word by one word into itself, with the rest; the words of a number written as digits. -/
import Derived.Test.YtjojjicpdfmopaaGreatDoorStrB
import Derived.Test.YtjojjicpdfmopaaGreatDoorQuoA
import Derived.Test.YtjojjicpdfmopaaGreatDoorBigI
namespace Go.Proofs.YtjojjicpdfmopaaGreatDoor
open Go Go.RowKit
set_option linter.unusedVariables false

set_option maxHeartbeats 1000000 in
set_option maxRecDepth 100000 in
theorem divW_rest (B a p n c : Nat) (A : Option Addr) (w : World) (hBw : B ≤ w.heap.size) (ha : a < W64) (hp : 0 < p) (hp2 : p < W64) (ha0 : a ≠ 0) (h1 : p ≠ 1) (h : Wds w B (.slice A n c) (wordsOf a)) (hn : n = (wordsOf a).length) :
    Calls Tryz.prog 137 #[.slice A n c, .slice A n c, .int .u64 (p : Int)] w fun e w' => ∃ (V' : Value), e = .returned (.tuple #[V', .int .u64 ((a % p : Nat) : Int)]) ∧ Gave w w' B (.slice A n c) V' (wordsOf (a / p)) := by
  have hp0 : ((p : Int) == 0) = false := by rw [beq_eq_false_iff_ne]; omega
  rw [wordsOf_1 ha0 ha] at h hn
  obtain rfl : n = 1 := hn
  obtain ⟨g, rfl⟩ := h.addr (by simp)
  have hp1 : ((p : Int) == 1) = false := by rw [beq_eq_false_iff_ne]; omega
  have hcap := capOf h
  obtain ⟨cur, hrow, hcs, hct, hBg, hlc, hcm⟩ := h.row
  have hl1 : ([a] : List Nat).length = 1 := rfl
  have hxw := cell_head hrow hct 0 (by simp)
  simp only [List.getElem_cons_zero] at hxw
  rw [hl1] at hlc
  have hfr := hrow.fr 0
  have hrlt : a % p < W64 := Nat.lt_of_le_of_lt (Nat.mod_le _ _) ha
  have hqlt : a / p < W64 := Nat.lt_of_le_of_lt (Nat.div_le_self _ _) ha
  have HDV := fun n1 => divWVW1 g 0 c g 0 c (.int .u64 (a : Int)) a p ha hp2 (by omega) (w.drewN n1) hxw rfl hfr hxw
  generalize a / p = q at hqlt HDV ⊢
  generalize a % p = r at hrlt HDV ⊢
  have HDV := hide HDV
  have HC := hide hct
  have HR := hide hrow
  have HH := hide h
  have HRL := hide hrlt
  have HQL := hide hqlt
  have HCS := hide hcs
  clear hrlt hqlt hcs h ha hp2 hxw hfr hrow hct
  go_enter Tryz.func137, Tryz.ntmps137
  go_wp2_with fail
  refine (natMake_fits _ 1 c 1 _ hlc hcm).mono ?_
  rintro e w1 ⟨rfl, n1, rfl⟩
  go_wp2_with fail
  refine (HDV.out n1).mono ?_
  rintro e w2 ⟨rfl, n2, rfl⟩
  have hrow2 : RowIs (((w.drewN n1).drewN n2).setCell ⟨g, 0, none⟩ (.int .u64 (q : Int))) g (cur.setIfInBounds 0 (.int .u64 (q : Int))) := ((HR.out.drewN n1).drewN n2).set_ 0 _
  have hgr : w.grownBy (((w.drewN n1).drewN n2).setCell ⟨g, 0, none⟩ (.int .u64 (q : Int))) (some g) := only_setCell (only_drewN (only_drewN (only_refl w (some g)) n1) n2) 0 _
  generalize ((w.drewN n1).drewN n2).setCell ⟨g, 0, none⟩ (.int .u64 (q : Int)) = w2 at hrow2 hgr ⊢
  have ht2 : (cur.setIfInBounds 0 (.int .u64 (q : Int))).toList.take ([q] : List Nat).length = [q].flatMap wEnc := by
    rw [Array.toList_setIfInBounds]
    exact take_set1 cur.toList _ (by rw [Array.length_toList]; have := HCS.out; omega)
  have hrd := rd_row hrow2 ht2
  have HR2 := hide hrow2
  have HT2 := hide ht2
  have HG2 := hide hgr
  clear hrow2 ht2 hgr
  go_wp2_with fail
  refine (natNorm [q] g c _ hrd (by simp) (by simpa using hlc)).mono ?_
  rintro e w3 ⟨⟨k, hk, rfl, hz, hnz⟩, n3, rfl⟩
  go_wp2_with fail
  go_ret2
  have hv : valOf [q] = q := by simp [valOf]
  have hW2 : W64 ≤ W64 * W64 := by unfold W64; omega
  have hs2 : (cur.setIfInBounds 0 (.int .u64 (q : Int))).size = c := by rw [Array.size_setIfInBounds]; exact HCS.out
  exact ⟨_, rfl, gave_row (ws := [q]) (v := q) (only_drewN HG2.out n3) (HR2.out.drewN n3) HT2.out hs2 hBg hcm hcap (.inl rfl) (fun x hx => by obtain rfl := List.mem_singleton.1 hx; exact HQL.out) hv (Nat.lt_of_lt_of_le HQL.out hW2) (by simp) (by simpa using hlc) hk hz hnz⟩
end Go.Proofs.YtjojjicpdfmopaaGreatDoor

namespace Go.Proofs.YtjojjicpdfmopaaGreatDoor
open Go Go.RowKit
set_option linter.unusedVariables false

def digV (x j : Nat) : Value := .int .u8 ((48 + x / 10 ^ j % 10 : Nat) : Int)
/-- the last t places of m are written -/
def padF (m t x j : Nat) : Value := if m - t ≤ j then digV x (m - 1 - j) else .int .u8 0
theorem padF_put {w : World} {g m t x : Nat} (h : VRow w g 5 m (padF m t x)) (ht : t < m) : VRow (w.setCell ⟨g, m - (t + 1), none⟩ (digV x t)) g 5 m (padF m (t + 1) x) :=
  (h.set_ _ _).congr fun j hj => by
    unfold padF
    by_cases e : j = m - (t + 1)
    · subst e
      rw [if_pos rfl, if_pos (Nat.le_refl _), show m - 1 - (m - (t + 1)) = t by omega]
    · rw [if_neg e]
      by_cases h1 : m - t ≤ j
      · rw [if_pos h1, if_pos (by omega)]
      · rw [if_neg h1, if_neg (by omega)]
/-- the state of the conversion -/
structure Conv (w wr : World) (B0 B g m t x y : Nat) (V : Value) : Prop where
  row : VRow wr g 5 m (padF m t x)
  q : Wds wr B V (wordsOf y)
  frame : Below B0 w wr
  keep : ∀ k, k < B → k ≠ g → wr.heap[k]? = w.heap[k]?
theorem Conv.put {w wr : World} {B0 B g m t x y : Nat} {V : Value} (h : Conv w wr B0 B g m t x y V) (h0 : B0 ≤ g) (hg : g < B) (ht : t < m) : Conv w (wr.setCell ⟨g, m - (t + 1), none⟩ (digV x t)) B0 B g m (t + 1) x y V := by
  refine ⟨padF_put h.row ht, ?_, ?_, fun k hk hkg => (Below.heap_setCell wr ⟨g, m - (t + 1), none⟩ _ k hkg).trans (h.keep k hk hkg)⟩
  · have hne : V.ownBlock ≠ some g := fun e => by have := (h.q.own.block g e).1; omega
    exact ⟨h.q.own.grown (only_setCell (only_refl wr (some g)) _ _) (.inr hne), h.q.cap⟩
  · exact ⟨h.frame.os, h.frame.tape, h.frame.output, by simpa [World.setCell] using h.frame.size, fun k hk => (Below.heap_setCell wr ⟨g, m - (t + 1), none⟩ _ k (by show k ≠ g; omega)).trans (h.frame.block k hk)⟩
theorem Conv.quot {w wr w' : World} {B0 B g m t x y y' : Nat} {V V' : Value} (h : Conv w wr B0 B g m t x y V) (hG : Gave wr w' B V V' (wordsOf y')) (hg : g < B) (hB0 : B0 ≤ g) (hBw : B ≤ w.heap.size) : Conv w w' B0 B g m t x y' V' := by
  have hs : w.heap.size ≤ wr.heap.size := h.frame.size
  have hne : ∀ k, k < B → some k ≠ V.ownBlock := fun k hk e => by have := (h.q.own.block k e.symm).1; omega
  refine ⟨?_, hG.wds, ⟨hG.grown.os.trans h.frame.os, hG.grown.tape.trans h.frame.tape, hG.grown.output.trans h.frame.output, Nat.le_trans hs hG.grown.size, fun k hk => ?_⟩, fun k hk hkg => (hG.grown.block k (by omega) (hne k hk)).trans (h.keep k hk hkg)⟩
  · exact (hG.grown.block g (by omega) (hne g hg)).trans h.row
  · exact (hG.grown.block k (by omega) (hne k (by omega))).trans (h.frame.block k hk)
theorem Conv.drewN {w wr : World} {B0 B g m t x y : Nat} {V : Value} (h : Conv w wr B0 B g m t x y V) (n : Nat) : Conv w (wr.drewN n) B0 B g m t x y V := ⟨h.row.drewN n, h.q.drewN n, bdrewN h.frame n, h.keep⟩

/-- what is written, and what is left -/
def Left (x m t y : Nat) : Prop := (t = 0 ∧ y = x) ∨ (t = 19 ∧ m = 20 ∧ y = x / 10 ^ 19) ∨ (y = 0 ∧ x < 10 ^ t)
theorem Left.div {x m t y : Nat} (h : Left x m t y) (hy : y ≠ 0) (hm : 0 < m) : y = x / 10 ^ t ∧ t < m := by
  rcases h with ⟨rfl, rfl⟩ | ⟨rfl, rfl, rfl⟩ | ⟨rfl, _⟩
  · exact ⟨by simp, hm⟩
  · exact ⟨rfl, by omega⟩
  · exact absurd rfl hy
theorem Left.next {x m t y k : Nat} (h : Left x m t y) (hy : y ≠ 0) (hx : x < 10 ^ m) (hm20 : m ≤ 20) (hk : k ≤ 19) (hkm : t + k ≤ m) (he : k = 19 ∨ t + k = m) : Left x m (t + k) (y / 10 ^ 19) := by
  rcases h with ⟨rfl, rfl⟩ | ⟨rfl, rfl, rfl⟩ | ⟨rfl, _⟩
  · by_cases hm : m = 20
    · subst hm
      obtain rfl : k = 19 := by omega
      exact .inr (.inl ⟨by omega, rfl, rfl⟩)
    · have h19 : k = m := by omega
      subst h19
      refine .inr (.inr ⟨Nat.div_eq_of_lt (Nat.lt_of_lt_of_le hx (Nat.pow_le_pow_right (by omega) hk)), by rw [Nat.zero_add]; exact hx⟩)
  · obtain rfl : k = 1 := by omega
    refine .inr (.inr ⟨Nat.div_eq_of_lt ?_, hx⟩)
    rw [Nat.div_lt_iff_lt_mul (by omega), ← Nat.pow_add]
    exact Nat.lt_of_lt_of_le hx (Nat.pow_le_pow_right (by omega) (by omega))
  · exact absurd rfl hy
/-- the next digit of what is left -/
theorem left_digit {x y r t k : Nat} (h : y = x / 10 ^ t) (hk : k < 19) (hr : r = y % 10 ^ 19 / 10 ^ k) : digV x (t + k) = .int .u8 ((48 + r % 10 : Nat) : Int) := by
  unfold digV
  have h1 : x / 10 ^ (t + k) % 10 = r % 10 := by
    rw [hr, Nat.pow_add, ← Nat.div_div_eq_div_mul, ← h]
    obtain ⟨d, hd⟩ : ∃ d, 19 = k + 1 + d := ⟨19 - k - 1, by omega⟩
    have e2 : y = y % 10 ^ 19 + 10 ^ 19 * (y / 10 ^ 19) := (Nat.mod_add_div _ _).symm
    generalize y % 10 ^ 19 = a at e2 ⊢
    generalize y / 10 ^ 19 = b at e2
    have hp : 10 ^ 19 = 10 ^ k * (10 * 10 ^ d) := by rw [hd, Nat.pow_add, Nat.pow_succ, Nat.mul_assoc]
    rw [e2, hp, Nat.mul_assoc, Nat.add_mul_div_left _ _ (Nat.pow_pos (by omega)), Nat.mul_assoc, Nat.add_mul_mod_self_left]
  rw [h1]
end Go.Proofs.YtjojjicpdfmopaaGreatDoor

namespace Go.Proofs.YtjojjicpdfmopaaGreatDoor
open Go Go.RowKit
set_option linter.unusedVariables false

theorem u8_digit {r : Nat} : IntKind.u8.wrap (48 + IntKind.u8.wrap (((r - r / 10 * 10 : Nat)) : Int)) = ((48 + r % 10 : Nat) : Int) := by
  have h : r - r / 10 * 10 = r % 10 := by omega
  have h2 : r % 10 < 10 := Nat.mod_lt _ (by omega)
  rw [h]
  generalize r % 10 = d at h2
  simp [IntKind.wrap, IntKind.bits, IntKind.signed]
  omega
set_option maxHeartbeats 4000000 in
set_option maxRecDepth 100000 in
theorem convWords_any (B0 B g m x c : Nat) (A : Option Addr) (S : Value) (w : World) (hB0 : B0 ≤ g) (hgB : g < B) (hBw : B ≤ w.heap.size) (hm : 0 < m) (hm20 : m ≤ 20) (hx0 : x ≠ 0) (hx : x < W64) (hxm : x < 10 ^ m)
    (hq : Wds w B (.slice A 1 c) (wordsOf x)) (hs : VRow w g 5 m (fun _ => .int .u8 0)) :
    Calls Tryz.prog 111 #[.slice A 1 c, S, .slice (some ⟨g, 0, none⟩) m m, .int .u64 10, .int .i64 19, .int .u64 10000000000000000000, .slice none 0 0] w fun e w' =>
      e = .returned (.tuple #[]) ∧ VRow w' g 5 m (padF m m x) ∧ Below B0 w w' ∧ ∀ k, k < B → k ≠ g → w'.heap[k]? = w.heap[k]? := by
  have hC : Conv w w B0 B g m 0 x x (.slice A 1 c) := ⟨hs.congr fun j hj => by unfold padF; rw [if_neg (by omega)], hq, Below.refl _ _, fun _ _ _ => rfl⟩
  have HX := hide hx
  have HXM := hide hxm
  have HX0 := hide hx0
  have HBW := hide hBw
  have w1x : (wordsOf x).length = 1 := by rw [wordsOf_1 hx0 hx]; rfl
  clear hx hxm hx0 hBw hs hq
  go_enter Tryz.func111, Tryz.ntmps111
  go_wp2_with fail
  go_loopw [0, 19, 20] (fun qv iv rv wr => ∃ (t y c : Nat) (A : Option Addr), t ≤ m ∧ qv = .slice A (wordsOf y).length c ∧ iv = .int .i64 ((m - t : Nat) : Int) ∧ (∃ r : Int, rv = .int .u64 r) ∧ Hid (Left x m t y) ∧ Hid (y < W64) ∧ Hid (Conv w wr B0 B g m t x y (.slice A (wordsOf y).length c))) (fun _ iv _ _ => (intOf iv).toNat)
  case atStart => exact ⟨0, x, c, A, by omega, by rw [w1x], by simp, ⟨0, rfl⟩, hide (.inl ⟨rfl, rfl⟩), HX, hide (by rw [w1x]; exact hC)⟩
  case round =>
    obtain ⟨t, y, c1, A1, ht, rfl, rfl, ⟨r0, rfl⟩, hL, hy, hK⟩ := hrel
    by_cases y0 : y = 0
    · subst y0
      have hxt : Hid (x < 10 ^ t) := hide (by
        rcases hL.out with ⟨rfl, e⟩ | ⟨rfl, rfl, e⟩ | ⟨_, h⟩
        · exact absurd e.symm HX0.out
        · rw [eq_comm, Nat.div_eq_zero_iff] at e
          rcases e with e | e
          · exact absurd e (by decide)
          · exact e
        · exact h)
      generalize hn0 : (wordsOf 0).length = n0 at hK ⊢
      obtain rfl : n0 = 0 := hn0.symm
      clear hn0 hL hy
      go_wp2_with fail
      go_loopw [19] (fun iv wi => ∃ t1 : Nat, t1 ≤ m ∧ iv = .int .i64 ((m - t1 : Nat) : Int) ∧ Hid (x < 10 ^ t1) ∧ Hid (Conv w wi B0 B g m t1 x 0 (.slice A1 0 c1))) (fun iv _ => (intOf iv).toNat)
      case atStart => exact ⟨t, ht, rfl, hxt, hK⟩
      case round =>
        clear hxt hK
        obtain ⟨t1, ht1, rfl, hxt, hK⟩ := hrel
        by_cases e1 : t1 = m
        · subst e1
          have e2 : ((t1 - t1 : Nat) : Int) = 0 := by omega
          rw [e2]
          go_wp2_with fail
          go_end0
          exact ⟨rfl, hK.out.row, hK.out.frame, hK.out.keep⟩
        · have i1 : (0 : Int) < ((m - t1 : Nat) : Int) := by omega
          have i2 : IntKind.i64.wrap (((m - t1 : Nat) : Int) - 1) = ((m - (t1 + 1) : Nat) : Int) := by simp [IntKind.wrap, IntKind.bits, IntKind.signed]; omega
          have i3 : ((m - (t1 + 1) : Nat) : Int) < (m : Int) := by omega
          have hfr := hK.out.row.frozen (m - (t1 + 1))
          have hcl := hK.out.row.cell (m - (t1 + 1)) (by omega)
          have hN := hide (hK.out.put hB0 hgB (show t1 < m by omega))
          have hd : digV x t1 = .int .u8 48 := by unfold digV; rw [Nat.div_eq_of_lt hxt.out]; rfl
          rw [hd] at hN
          have hx2 : Hid (x < 10 ^ (t1 + 1)) := hide (Nat.lt_of_lt_of_le hxt.out (Nat.pow_le_pow_right (by omega) (by omega)))
          clear hK hxt hd
          go_wp2_with fail
          go_roundw
          case rel => exact ⟨t1 + 1, by omega, rfl, hx2, hN⟩
          case measure => simp [intOf]; omega
    · obtain ⟨hyt, htm⟩ := hL.out.div y0 hm
      have HY := hide hyt
      have hl1 : (wordsOf y).length = 1 := by rw [wordsOf_1 y0 hy.out]; rfl
      have hq := hK.out.q
      have hsz : B ≤ wr.heap.size := Nat.le_trans HBW.out hK.out.frame.size
      have HD := hide (fun W (e : W = wr) => divW_rest B y 10000000000000000000 (wordsOf y).length c1 A1 W (by rw [e]; exact hsz) hy.out (by decide) (by unfold W64; decide) y0 (by decide) (by rw [e]; exact hq) rfl)
      generalize hn0 : (wordsOf y).length = n0 at hK HD hq ⊢
      obtain rfl : n0 = 1 := by omega
      clear hn0 hl1 hyt hsz hq
      go_wp2_with fail
      refine (HD.out _ rfl).mono ?_
      rintro e w2 ⟨V', rfl, hG⟩
      obtain ⟨A2, c2, hV2, _⟩ := hG.wds.cap
      subst hV2
      have hK2 := hide (hK.out.quot hG hgB hB0 HBW.out)
      obtain ⟨r, hr⟩ : ∃ r, r = y % 10000000000000000000 := ⟨_, rfl⟩
      rw [← hr]
      have hr2 : Hid (r = y % 10 ^ 19 / 10 ^ 0) := hide (by rw [hr, Nat.pow_zero, Nat.div_one])
      have hrl : Hid (r < W64) := hide (by rw [hr]; unfold W64; omega)
      clear hK hG hr HD
      go_wp2_with fail
      go_loopw [19, 20, 21] (fun iv rv jv wi => ∃ k s : Nat, k ≤ 19 ∧ t + k ≤ m ∧ iv = .int .i64 ((m - (t + k) : Nat) : Int) ∧ rv = .int .u64 (s : Int) ∧ jv = .int .i64 (k : Int) ∧ Hid (s = y % 10 ^ 19 / 10 ^ k) ∧ Hid (s < W64) ∧ Hid (Conv w wi B0 B g m (t + k) x (y / 10000000000000000000) (.slice A2 (wordsOf (y / 10000000000000000000)).length c2))) (fun iv _ _ _ => (intOf iv).toNat)
      case atStart => exact ⟨0, r, by omega, by omega, by rw [Nat.add_zero], rfl, rfl, hr2, hrl, hK2⟩
      case round =>
        clear hK2 hr2 hrl
        obtain ⟨k, s, hk, hkm, rfl, rfl, rfl, hs, hsl, hK⟩ := hrel
        by_cases hend : k = 19 ∨ t + k = m
        · have hpos : 0 < k := by omega
          have hrl : Hid (Left x m (t + k) (y / 10000000000000000000)) := hide (hL.out.next y0 HXM.out hm20 hk hkm hend)
          have hyl : Hid (y / 10000000000000000000 < W64) := hide (Nat.lt_of_le_of_lt (Nat.div_le_self _ _) hy.out)
          rcases hend with rfl | he
          · go_wp2_with fail
            go_roundw
            case rel => exact ⟨t + 19, _, c2, A2, hkm, rfl, rfl, ⟨_, rfl⟩, hrl, hyl, hK⟩
            case measure => simp [intOf]; omega
          · by_cases h19 : k = 19
            · subst h19
              go_wp2_with fail
              go_roundw
              case rel => exact ⟨t + 19, _, c2, A2, hkm, rfl, rfl, ⟨_, rfl⟩, hrl, hyl, hK⟩
              case measure => simp [intOf]; omega
            · have c1 : (k : Int) < 19 := by omega
              have e2 : ((m - (t + k) : Nat) : Int) = 0 := by omega
              rw [e2]
              go_wp2_with fail
              go_roundw
              case rel => exact ⟨t + k, _, c2, A2, hkm, rfl, by rw [e2], ⟨_, rfl⟩, hrl, hyl, hK⟩
              case measure => simp [intOf]; omega
        · have c1 : (k : Int) < 19 := by omega
          have i1 : (0 : Int) < ((m - (t + k) : Nat) : Int) := by omega
          have i2 : IntKind.i64.wrap (((m - (t + k) : Nat) : Int) - 1) = ((m - (t + k + 1) : Nat) : Int) := by simp [IntKind.wrap, IntKind.bits, IntKind.signed]; omega
          have i3 : ((m - (t + k + 1) : Nat) : Int) < (m : Int) := by omega
          have i4 : IntKind.i64.wrap ((k : Int) + 1) = ((k + 1 : Nat) : Int) := by simp [IntKind.wrap, IntKind.bits, IntKind.signed]; omega
          have e1 : Hid (IntKind.u64.wrap ((s : Int) / 10) = ((s / 10 : Nat) : Int)) := hide (by have := hsl.out; unfold W64 at this; rw [IntKind.wrap_u64]; omega)
          have e2 : Hid ((48 + IntKind.u64.wrap ((s : Int) - IntKind.u64.wrap (((s / 10 : Nat) : Int) * 10))) % 256 = ((48 + s % 10 : Nat) : Int)) := hide (by
            have := hsl.out
            unfold W64 at this
            rw [IntKind.wrap_u64, IntKind.wrap_u64]
            omega)
          have hfr := hK.out.row.frozen (m - (t + k + 1))
          have hcl := hK.out.row.cell (m - (t + k + 1)) (by omega)
          have hN := hide (hK.out.put hB0 hgB (show t + k < m by omega))
          have hd := left_digit HY.out (show k < 19 by omega) hs.out
          rw [hd] at hN
          have hs2 : Hid (s / 10 = y % 10 ^ 19 / 10 ^ (k + 1)) := hide (by rw [hs.out, Nat.div_div_eq_div_mul, ← Nat.pow_succ])
          have hsl2 : Hid (s / 10 < W64) := hide (Nat.lt_of_le_of_lt (Nat.div_le_self _ _) hsl.out)
          clear hK hd hs hsl
          go_wp2_with fail
          go_roundw
          case rel =>
            rw [e1.out, e2.out]
            exact ⟨k + 1, s / 10, by omega, by omega, rfl, rfl, by simp, hs2, hsl2, hN⟩
          case measure => simp [intOf]; omega
end Go.Proofs.YtjojjicpdfmopaaGreatDoor

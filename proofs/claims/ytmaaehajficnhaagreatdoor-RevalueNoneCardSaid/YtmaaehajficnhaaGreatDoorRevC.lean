/- revalue.Entries at no rates, all balances of the base: no entries. -/
import Derived.Test.YtmaaehajficnhaaGreatDoorRevB
import Derived.Test.YtmaaehajficnhaaGreatDoorChartE
namespace Go.Proofs.YtmaaehajficnhaaGreatDoor
open Go Go.RowKit
set_option linter.unusedVariables false

def noAccR : Value := .agg #[.string ⟨#[]⟩, .string ⟨#[]⟩, .int .i64 0, .string ⟨#[]⟩, .bool false]
theorem find_noneR (l : List Acc) (c : ByteArray) (A : Option Addr) (n cap : Nat) (w : World) (hl : n ≤ 60) (hcap : n ≤ cap) (ha : Accs w A n l) (hok : AccOk l) (he : chartE l = 0) (hi : idxO l c = none) :
    Calls Tryz.prog 11 #[.slice A n cap, .string c] w fun e w' => e = .returned (.tuple #[noAccR, .iface 49 (.int .i64 6)]) ∧ Below w.heap.size w w' := by
  have HE := hide he
  have HI : Hid (idxI l c = -1) := by show idxI l c = -1; simp [idxI, hi]
  clear he hi
  go_enter Tryz.func11, Tryz.ntmps11
  go_wp2_with (first | (go_at_call 9; refine (check_ok l _ _ _ _ (by omega) hcap (ha.alloc _) hok HE.out).mono ?_; rintro e w1 ⟨rfl, hb1⟩) | (go_at_call 22; refine (index_at l c (-1) _ _ _ _ (by omega) ((ha.alloc _).below hb1) HI.out).mono ?_; rintro e w2 ⟨rfl, hb2⟩; have hb02 := bthen hb1 (Nat.le_refl _) hb2; have hc2 := (bcell hb02).1; have hf2 := (bcell hb02).2; have hz2 : w.heap.size < w2.heap.size := (by have := hb02.size; simp at this; omega)))
  have hB := bof_alloc hb02
  refine bodyPost_ret (v := .tuple #[noAccR, .iface 49 (.int .i64 6)]) (by simp [results, noAccR, Tryz.results11, go_sem, hc2]) rfl ⟨rfl, ?_⟩
  first | exact hB | exact ((((hB.setCell (Nat.le_refl _) _).setCell (Nat.le_refl _) _).setCell (Nat.le_refl _) _).setCell (Nat.le_refl _) _).setCell (Nat.le_refl _) _

/-- no error, or one of package api -/
def ErrLike (v : Value) : Prop := v = .nilIface ∨ ∃ k, v = .iface 49 (.int .i64 k)
/-- whatever chart.Find says of a code: some account, an error or none -/
theorem find_some (l : List Acc) (c : ByteArray) (A : Option Addr) (n cap : Nat) (w : World) (hl : n ≤ 60) (hcap : n ≤ cap) (ha : Accs w A n l) (hok : AccOk l) (he : chartE l = 0) :
    Calls Tryz.prog 11 #[.slice A n cap, .string c] w fun e w' => (∃ a b k d m, e = .returned (.tuple #[.agg #[.string a, .string b, .int .i64 k, .string d, .bool m], .nilIface]) ∨ e = .returned (.tuple #[.agg #[.string a, .string b, .int .i64 k, .string d, .bool m], .iface 49 (.int .i64 6)])) ∧ Below w.heap.size w w' := by
  cases hi : idxO l c with
  | none => exact (find_noneR l c A n cap w hl hcap ha hok he hi).mono fun e w' ⟨h1, h2⟩ => ⟨⟨_, _, _, _, _, .inr h1⟩, h2⟩
  | some i =>
    have hil := idxO_lt hi
    exact (find_ok l c i A n cap w hl hcap ha hok he hi hil).mono fun e w' ⟨h1, h2⟩ => ⟨⟨_, _, _, _, _, .inl h1⟩, h2⟩

set_option maxHeartbeats 4000000 in
set_option maxRecDepth 100000 in
theorem entries_none (c : List Acc) (CA : Option Addr) (cn ccap : Nat) (S : List Bal) (A : Option Addr) (n cap : Nat) (ent per : Int) (w : World) (hcl : cn ≤ 9223372036854775807) (hcc : cn ≤ ccap) (hc : Accs w CA cn c) (hcok : AccOk c)
    (hl : n ≤ 9223372036854775807) (ha : Rd w 4 balEnc A n S) (hE : Eurs S) (hok : BalsOk S) :
    Calls Tryz.prog 5 #[.slice CA cn ccap, .slice none 0 0, .string eur, .string ⟨#[52, 48]⟩, .slice A n cap, .int .i64 ent, .int .i64 per] w
      fun e w' => (∃ EV, e = .returned (.tuple #[.slice none 0 0, EV]) ∧ ErrLike EV) ∧ Below w.heap.size w w' := by
  have Hn := hide ha.1
  have Hc := hide hc.1
  by_cases h1 : chartE c = 0
  · have h60 : cn ≤ 60 := by have := chartE_len h1; have := Hc.out; omega
    have H1 := hide h1
    clear h1
    go_enter Tryz.func5, Tryz.ntmps5
    go_wp2_with fail
    refine (check_ok c _ _ _ _ hcl hcc hc hcok H1.out).mono ?_
    rintro e w1 ⟨rfl, hb1⟩
    go_wp2_with fail
    refine (worth_any S _ _ _ ent per _ hl (ha.below hb1) hE hok).mono ?_
    rintro e w2 ⟨hb2, ⟨HW, v, rfl, hown⟩ | ⟨k, HW, hk, rfl⟩⟩
    · have hb2 := bthen hb1 (Nat.le_refl _) hb2
      by_cases h3 : leafE c ⟨#[52, 48]⟩ = 0
      · have H3 := hide h3
        clear h3
        go_wp2_with fail
        refine (leaf_ok c _ _ _ _ _ hcl (hc.below hb2) H3.out).mono ?_
        rintro e w3 ⟨rfl, hb3⟩
        have hb3 := bthen hb2 (Nat.le_refl _) hb3
        go_wp2_with fail
        go_loopw [57] (fun iv wr => ∃ k : Nat, k ≤ n ∧ iv = .int .i64 k ∧ Below w.heap.size w wr) (fun iv _ => n - (intOf iv).toNat)
        case atStart => exact ⟨0, by omega, rfl, hb3⟩
        case round =>
          obtain ⟨k, hk, rfl, hbr⟩ := hrel
          have hsz := hbr.size
          by_cases hlt : k < n
          · have hkl : k < S.length := by have := Hn.out; omega
            obtain ⟨b, off, rfl, hcs⟩ := (Rd.below ha hbr).2 (by omega)
            have q0 := hcs k 0 _ hkl rfl
            have q1 := hcs k 1 _ hkl rfl
            have q2 := hcs k 2 _ hkl rfl
            have q3 := hcs k 3 _ hkl rfl
            rw [Nat.add_zero] at q0
            clear hcs
            have k0 : (0 : Int) ≤ (k : Int) := by omega
            have k1 : (k : Int) < (n : Int) := by omega
            have hax : Below wr.heap.size wr (wr.alloc (.cells #[.int .i64 S[k].ent, .string S[k].acc, .string S[k].cur, .int .i64 S[k].amt] 30)) := (Below.refl _ _).alloc (Nat.le_refl _) _
            have hx0 : (wr.alloc (.cells #[.int .i64 S[k].ent, .string S[k].acc, .string S[k].cur, .int .i64 S[k].amt] 30)).cell? ⟨wr.heap.size, 0, none⟩ = some (.int .i64 S[k].ent) := by simp
            have hcx := (hc.below hbr).below hax
            go_wp2_with fail
            refine (find_some c _ _ _ _ _ h60 hcc hcx hcok H1.out).mono ?_
            rintro e w4 ⟨⟨fa, fb, fk, fd, fm, rfl | rfl⟩, hb4⟩
            · have hb4 := bthen hbr (Nat.le_refl _) (bof_alloc hb4)
              have hs4 := hb4.size
              go_wp2_with fail
              go_roundw
              case rel => exact ⟨k + 1, by omega, by go_num, hb4.alloc hs4 _⟩
              case measure => simp [intOf]; omega
            · have hx4 : w4.cell? ⟨wr.heap.size, 0, none⟩ = some (.int .i64 S[k].ent) := below_cell hb4 (by simp) hx0
              have hz4 : wr.heap.size < w4.heap.size := World.block_lt_of_cell? _ _ hx4
              have hb4 := bthen hbr (Nat.le_refl _) (bof_alloc hb4)
              have hs4 := hb4.size
              cases e0 : (S[k].ent == ent) with
              | true =>
                go_wp2_with fail
                go_ret2
                exact ⟨⟨_, rfl, .inr ⟨_, rfl⟩⟩, hb4.alloc hs4 _⟩
              | false =>
                go_wp2_with fail
                go_roundw
                case rel => exact ⟨k + 1, by omega, by go_num, hb4.alloc hs4 _⟩
                case measure => simp [intOf]; omega
          · go_wp2_with fail
            go_loopw [24, 80] (fun ov iv wr => ∃ i : Nat, i ≤ cn ∧ ov = .slice none 0 0 ∧ iv = .int .i64 i ∧ Below w.heap.size w wr) (fun _ iv _ => cn - (intOf iv).toNat)
            case atStart => exact ⟨0, by omega, rfl, rfl, hbr⟩
            case round =>
              obtain ⟨i, hi, rfl, rfl, hbo⟩ := hrel
              obtain ⟨wo, hwo⟩ : ∃ wo, wo = wr := ⟨_, rfl⟩
              subst hwo
              have hso := hbo.size
              by_cases hil : i < cn
              · have hilc : i < c.length := by have := Hc.out; omega
                obtain ⟨cb, co, rfl, hcs⟩ := (hc.below hbo).at_ (by omega)
                obtain ⟨a0, a1, a2, a3, a4⟩ := hcs i hilc
                clear hcs
                have i0' : (0 : Int) ≤ (i : Int) := by omega
                have i1' : (i : Int) < (cn : Int) := by omega
                have hba : Below w.heap.size w (wo.alloc (.cells #[.string c[i].code, .string c[i].name, .int .i64 c[i].kind, .string c[i].parent, .bool c[i].money] 43)) := hbo.alloc hso _
                have hc0 : (wo.alloc (.cells #[.string c[i].code, .string c[i].name, .int .i64 c[i].kind, .string c[i].parent, .bool c[i].money] 43)).cell? ⟨wo.heap.size, 0, none⟩ = some (.string c[i].code) := by simp
                cases hm : c[i].money with
                | false =>
                  rw [hm] at a4 hba
                  go_wp2_with fail
                  go_roundw
                  case rel => exact ⟨i + 1, by omega, rfl, by go_num, hba⟩
                  case measure => simp [intOf]; omega
                | true =>
                  rw [hm] at a4 hba hc0
                  go_wp2_with fail
                  generalize wo.alloc (.cells #[.string c[i].code, .string c[i].name, .int .i64 c[i].kind, .string c[i].parent, .bool true] 43) = wa at hba hc0 ⊢
                  have hza := World.block_lt_of_cell? _ _ hc0
                  have hsa := hba.size
                  go_loopw [27, 89] (fun vv jv wi => ∃ j : Nat, j ≤ n ∧ vv = .slice none 0 0 ∧ jv = .int .i64 j ∧ Below wa.heap.size wa wi) (fun _ jv _ => n - (intOf jv).toNat)
                  case atStart => exact ⟨0, by omega, rfl, rfl, Below.refl _ _⟩
                  case round =>
                    obtain ⟨j, hj, rfl, rfl, hbi⟩ := hrel
                    have hbwi := bthen hba (Nat.le_refl _) hbi
                    have hsi := hbi.size
                    by_cases hjl : j < n
                    · have hjS : j < S.length := by have := Hn.out; omega
                      obtain ⟨b, off, rfl, hcs⟩ := (Rd.below ha hbwi).2 (by omega)
                      have q0 := hcs j 0 _ hjS rfl
                      have q1 := hcs j 1 _ hjS rfl
                      have q2 := hcs j 2 _ hjS rfl
                      have q3 := hcs j 3 _ hjS rfl
                      rw [Nat.add_zero] at q0
                      rw [hE j hjS] at q2
                      clear hcs
                      have j0 : (0 : Int) ≤ (j : Int) := by omega
                      have j1 : (j : Int) < (n : Int) := by omega
                      have hcw := below_cell hbi hza hc0
                      have hzw := World.block_lt_of_cell? _ _ hcw
                      cases e0 : (S[j].ent == ent) with
                      | false =>
                        go_wp2_with fail
                        go_roundw
                        case rel => exact ⟨j + 1, by omega, rfl, by go_num, hbi.alloc hsi _⟩
                        case measure => simp [intOf]; omega
                      | true =>
                        cases e1 : (S[j].acc.toList == c[i].code.toList) with
                        | false =>
                          go_wp2_with fail
                          go_roundw
                          case rel => exact ⟨j + 1, by omega, rfl, by go_num, hbi.alloc hsi _⟩
                          case measure => simp [intOf]; omega
                        | true =>
                          go_wp2_with fail
                          go_roundw
                          case rel => exact ⟨j + 1, by omega, rfl, by go_num, hbi.alloc hsi _⟩
                          case measure => simp [intOf]; omega
                    · go_wp2_with fail
                      go_roundw
                      case rel => exact ⟨i + 1, by omega, rfl, by go_num, hbwi⟩
                      case measure => simp [intOf]; omega
              · go_wp2_with fail
                go_ret2
                exact ⟨⟨_, rfl, .inl rfl⟩, hbo⟩
      · have H3 := hide h3
        clear h3
        go_wp2_with fail
        refine (leaf_bad c _ _ _ _ _ hcl (hc.below hb2) H3.out).mono ?_
        rintro e w3 ⟨rfl, hb3⟩
        go_wp2_with fail
        go_ret2
        exact ⟨⟨_, rfl, .inr ⟨_, rfl⟩⟩, bthen hb2 (Nat.le_refl _) hb3⟩
    · go_wp2_with fail
      go_ret2
      exact ⟨⟨_, rfl, .inr ⟨_, rfl⟩⟩, bthen hb1 (Nat.le_refl _) hb2⟩
  · have H1 := hide h1
    clear h1
    go_enter Tryz.func5, Tryz.ntmps5
    go_wp2_with fail
    refine (check_bad c _ _ _ _ hcl hcc hc hcok H1.out).mono ?_
    rintro e w1 ⟨rfl, hb1⟩
    go_wp2_with fail
    go_ret2
    exact ⟨⟨_, rfl, .inr ⟨_, rfl⟩⟩, hb1⟩
end Go.Proofs.YtmaaehajficnhaaGreatDoor

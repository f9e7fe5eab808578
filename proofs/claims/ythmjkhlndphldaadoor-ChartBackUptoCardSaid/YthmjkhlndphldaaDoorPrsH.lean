/- daylaw1.ChartBack returns true. -/
import Derived.Test.YthmjkhlndphldaaDoorPrsE
import Derived.Test.YthmjkhlndphldaaDoorPrintB
namespace Go.Proofs.YthmjkhlndphldaaDoor
open Go Go.RowKit
set_option linter.unusedVariables false

def factL : List UInt8 := [49, 48, 32, 99, 97, 115, 104, 32, 65, 32, 109, 32, 45, 10]
theorem fact_len : (parseR (cutL 10 factL) []).2.2 = 0 ∧ (parseR (cutL 10 factL) []).1.map (·.money) = [true] := by decide +kernel
theorem good_ok {m : List Acc} (h : chartE m = 0) : AccOk m := fun i hi => by
  have := ch_sizes h i hi
  omega
theorem print_small {m : List Acc} (h : chartE m = 0) : (printL m).length ≤ 3600 := by
  have h1 := printL_le h m.length (Nat.le_refl _)
  have h2 := chartE_len h
  rw [List.take_length] at h1
  omega
theorem back_size (l : List UInt8) : (⟨l.toArray⟩ : ByteArray).size = l.length := rfl

set_option maxRecDepth 100000 in
set_option maxHeartbeats 2000000 in
theorem back_any (l : List Acc) (s : ByteArray) (A : Option Addr) (n cap : Nat) (w : World) (hlc : n ≤ cap) (hm : cap ≤ maxLen) (ha : Accs w A n l) (hok : AccOk l) (hs : s.size ≤ 4294967280) :
    Calls Tryd.prog 5 #[.slice A n cap, .string s] w fun e w' => e = .returned (.bool true) ∧ Below w.heap.size w w' := by
  have hn : n ≤ 9223372036854775807 := by unfold maxLen at hm; omega
  have hln : l.length = n := ha.1
  subst hln
  -- what stands in the fact
  have hf := parse_any ⟨#[49, 48, 32, 99, 97, 115, 104, 32, 65, 32, 109, 32, 45, 10]⟩ w (by decide)
  have hf2 := fact_len
  change (parseR (cutL 10 (⟨#[49, 48, 32, 99, 97, 115, 104, 32, 65, 32, 109, 32, 45, 10]⟩ : ByteArray).data.toList) []).2.2 = 0 ∧ (parseR (cutL 10 (⟨#[49, 48, 32, 99, 97, 115, 104, 32, 65, 32, 109, 32, 45, 10]⟩ : ByteArray).data.toList) []).1.map (·.money) = [true] at hf2
  generalize parseR (cutL 10 (⟨#[49, 48, 32, 99, 97, 115, 104, 32, 65, 32, 109, 32, 45, 10]⟩ : ByteArray).data.toList) [] = r at hf hf2
  obtain ⟨fm, fk, fe⟩ := r
  obtain ⟨hfe, hfm⟩ := hf2
  simp only at hf hfe hfm
  subst hfe
  obtain ⟨fa, rfl⟩ : ∃ fa, fm = [fa] := by
    have : fm.length = 1 := by have := congrArg List.length hfm; simpa using this
    exact List.length_eq_one_iff.1 this
  have hfa : fa.money = true := by simpa using hfm
  clear hfm
  have HS := hide hs
  have HP := hide (parse_any s)
  clear hs hm
  go_enter Tryd.func5, Tryd.ntmps5
  go_wp2_with fail
  refine hf.mono ?_
  rintro e w1 ⟨v1, rfl, hown1, hb1⟩
  obtain ⟨A1, c1, rfl, hc1, hm1⟩ := hown1.form
  obtain ⟨b1, o1, rfl, hs1⟩ := Accs.at_ (hown1.rd accEnc5) (by simp)
  have q4 := (hs1 0 (by simp)).2.2.2.2
  simp only [List.getElem_cons_zero, Nat.zero_mul, Nat.add_zero, hfa] at q4
  rw [errV_0 rfl]
  have ha1 := Rd.below ha hb1
  clear hs1 hown1 hf hfa
  go_wp2_with fail
  by_cases he : chartE l = 0
  · refine (print_ok l A cap w1 hlc ha1 hok he).mono ?_
    rintro e w2 ⟨rfl, hb2⟩
    have hpl := print_small he
    have hpp := parse_any ⟨(printL l).toArray⟩ w2 (by rw [back_size]; omega)
    have hpr : parseR (cutL 10 (⟨(printL l).toArray⟩ : ByteArray).data.toList) [] = (l, 0, 0) := parse_print he
    rw [hpr] at hpp
    simp only at hpp
    rw [show errV 0 = .nilIface from rfl] at hpp
    have ha2 := Rd.below ha1 hb2
    have hb12 := bthen hb1 (Nat.le_refl _) hb2
    clear hpr hpl he
    go_wp2_with fail
    refine hpp.mono ?_
    rintro e w3 ⟨v3, rfl, hown3, hb3⟩
    obtain ⟨A3, c3, rfl, hc3, hm3⟩ := hown3.form
    have hr3 := hown3.rd accEnc5
    have ha3 := Rd.below ha2 hb3
    have hb13 := bthen hb12 (Nat.le_refl _) hb3
    clear hpp hown3
    go_wp2_with fail
    refine (charts_same l _ _ _ _ _ _ hn hr3 ha3).mono ?_
    rintro e w4 ⟨rfl, hb4⟩
    have hb14 := bthen hb13 (Nat.le_refl _) hb4
    clear hr3 ha3 hb4 hb3 hb2
    go_wp2_with fail
    have hpt := HP.out w4 HS.out
    have hpb := fun m k h => parse_back (s := s.data.toList) (m := m) (k := k) h
    generalize parseR (cutL 10 s.data.toList) [] = r at hpt hpb
    obtain ⟨m, k, e0⟩ := r
    simp only at hpt
    clear HP
    refine hpt.mono ?_
    rintro e w8 ⟨v8, rfl, hown8, hb8⟩
    have hb18 := bthen hb14 (Nat.le_refl _) hb8
    clear hpt
    by_cases he0 : e0 = 0
    · subst he0
      rw [errV_0 rfl]
      obtain ⟨hm0, hms⟩ := hpb m k rfl
      obtain ⟨A8, c8, rfl, hc8, hm8⟩ := hown8.form
      have hpo := print_ok m A8 c8 w8 hc8 (hown8.rd accEnc5) (good_ok hm0) hm0
      rw [hms] at hpo
      clear hpb hms hown8
      go_wp2_with fail
      refine hpo.mono ?_
      rintro e w9 ⟨rfl, hb9⟩
      have hss : (⟨s.data.toList.toArray⟩ : ByteArray) = s := rfl
      have hb19 := bthen hb18 (Nat.le_refl _) hb9
      rw [hss]
      clear hpo hss
      go_wp2_with fail
      go_ret
      exact ⟨ret_bool (by simp), hb19⟩
    · rw [errV_n he0]
      clear hpb hown8 he0
      go_wp2_with fail
      go_ret
      exact ⟨rfl, hb18⟩
  · refine (print_bad l A _ cap w1 hn hlc ha1 hok he).mono ?_
    rintro e w2 ⟨rfl, hb2⟩
    have hb12 := bthen hb1 (Nat.le_refl _) hb2
    clear he
    go_wp2_with fail
    have hpt := HP.out w2 HS.out
    have hpb := fun m k h => parse_back (s := s.data.toList) (m := m) (k := k) h
    generalize parseR (cutL 10 s.data.toList) [] = r at hpt hpb
    obtain ⟨m, k, e0⟩ := r
    simp only at hpt
    clear HP
    refine hpt.mono ?_
    rintro e w8 ⟨v8, rfl, hown8, hb8⟩
    have hb18 := bthen hb12 (Nat.le_refl _) hb8
    clear hpt
    by_cases he0 : e0 = 0
    · subst he0
      rw [errV_0 rfl]
      obtain ⟨hm0, hms⟩ := hpb m k rfl
      obtain ⟨A8, c8, rfl, hc8, hm8⟩ := hown8.form
      have hpo := print_ok m A8 c8 w8 hc8 (hown8.rd accEnc5) (good_ok hm0) hm0
      rw [hms] at hpo
      clear hpb hms hown8
      go_wp2_with fail
      refine hpo.mono ?_
      rintro e w9 ⟨rfl, hb9⟩
      have hss : (⟨s.data.toList.toArray⟩ : ByteArray) = s := rfl
      have hb19 := bthen hb18 (Nat.le_refl _) hb9
      rw [hss]
      clear hpo hss
      go_wp2_with fail
      go_ret
      exact ⟨ret_bool (by simp), hb19⟩
    · rw [errV_n he0]
      clear hpb hown8 he0
      go_wp2_with fail
      go_ret
      exact ⟨rfl, hb18⟩
end Go.Proofs.YthmjkhlndphldaaDoor

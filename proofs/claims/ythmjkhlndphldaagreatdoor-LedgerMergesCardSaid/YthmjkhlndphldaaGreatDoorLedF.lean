/- slices.ContainsFunc over balances; the program's question; the bump of a sum. -/
import Derived.Test.YthmjkhlndphldaaGreatDoorLedE
import Derived.WideKeyEntry
namespace Go.Proofs.YthmjkhlndphldaaGreatDoor
open Go Go.RowKit Go.Maps
set_option linter.unusedVariables false

def idxBal (l : List Bal) (p : Bal → Bool) : Int := match l.findIdx? p with | some k => (k : Int) | none => -1
theorem NoTo.hitI {l : List Bal} {p : Bal → Bool} {k : Nat} (h : NoTo p l k) (hk : k < l.length) (hc : p l[k] = true) : idxBal l p = (k : Int) := by
  have : l.findIdx? p = some k := by
    rw [List.findIdx?_eq_some_iff_getElem]
    exact ⟨hk, hc, fun j hj => by rw [h j (by omega) hj]; decide⟩
  simp [idxBal, this]
theorem NoTo.missI {l : List Bal} {p : Bal → Bool} {k : Nat} (h : NoTo p l k) (hk : l.length ≤ k) : idxBal l p = -1 := by
  have : l.findIdx? p = none := by
    rw [List.findIdx?_eq_none_iff]
    intro x hx
    obtain ⟨j, hj, rfl⟩ := List.getElem_of_mem hx
    exact h j hj (by omega)
  simp [idxBal, this]
theorem idxBal_any (l : List Bal) (p : Bal → Bool) : decide (0 ≤ idxBal l p) = l.any p := by
  unfold idxBal
  cases h : l.findIdx? p with
  | none =>
    rw [List.findIdx?_eq_none_iff] at h
    have : l.any p = false := by rw [List.any_eq_false]; intro x hx; rw [h x hx]; decide
    rw [this]; rfl
  | some k =>
    obtain ⟨hk, hc, _⟩ := List.findIdx?_eq_some_iff_getElem.1 h
    have : l.any p = true := List.any_eq_true.2 ⟨_, List.getElem_mem hk, hc⟩
    rw [this]; simp
/-- what is asked of a function of balances: it says p, and turns nothing -/
def AsksB (K : Nat) (p : Bal → Bool) : Prop := ∀ (x : Bal) (w : World), Calls Tryz.prog K #[.agg #[.int .i64 x.ent, .string x.acc, .string x.cur, .int .i64 x.amt]] w fun e w' => e = .returned (.bool (p x)) ∧ Below w.heap.size w w'

set_option maxRecDepth 100000 in
theorem indexFunc_bal (l : List Bal) (K : Nat) (p : Bal → Bool) (hK : Hid (AsksB K p)) (eg : ∀ args w, (callFunc K args).run Tryz.prog w = .ok (.enter K args) w) (A : Option Addr) (n cap : Nat) (w : World) (hl : n ≤ 9223372036854775807) (ha : Rd w 4 balEnc A n l) :
    Calls Tryz.prog 149 #[.slice A n cap, .func (.func K) #[] #[]] w
      fun e w' => e = .returned (.int .i64 (idxBal l p)) ∧ Below w.heap.size w w' := by
  have Hn := hide ha.1
  go_enter Tryz.func149, Tryz.ntmps149
  go_wp2_with fail
  go_loopw [8] (fun i wr => ∃ k : Nat, k ≤ n ∧ i = .int .i64 k ∧ NoTo p l k ∧ Below w.heap.size w wr) (fun i _ => n - (intOf i).toNat)
  case atStart => exact ⟨0, by omega, rfl, NoTo.zero _ _, Below.refl _ _⟩
  case round =>
    obtain ⟨k, hk, rfl, hno, hb⟩ := hrel
    have HNo := hide hno
    clear hno
    by_cases hlt : k < n
    · obtain ⟨b, off, rfl, hcs⟩ := (Rd.below ha hb).2 (by omega)
      have hkl : k < l.length := by have := Hn.out; omega
      have h0 := hcs k 0 _ hkl rfl
      have h1 := hcs k 1 _ hkl rfl
      have h2 := hcs k 2 _ hkl rfl
      have h3 := hcs k 3 _ hkl rfl
      rw [Nat.add_zero] at h0
      clear hcs
      cases hp : p l[k] with
      | true =>
        have HP := hide hp
        clear hp
        go_wp2_with fail
        refine (hK.out l[k] _).mono ?_
        rintro e w1 ⟨rfl, hb1⟩
        rw [HP.out]
        go_wp2_with fail
        go_ret
        exact ⟨ret_int (HNo.out.hitI hkl HP.out).symm, bthen hb (Nat.le_refl _) hb1⟩
      | false =>
        have HP := hide hp
        clear hp
        go_wp2_with fail
        refine (hK.out l[k] _).mono ?_
        rintro e w1 ⟨rfl, hb1⟩
        rw [HP.out]
        go_wp2_with fail
        go_roundw
        case rel => exact ⟨k + 1, by omega, by go_num, HNo.out.succ hkl HP.out, bthen hb (Nat.le_refl _) hb1⟩
        case measure => simp [intOf]; omega
    · go_wp2_with fail
      go_ret
      exact ⟨ret_int (HNo.out.missI (by have := Hn.out; omega)).symm, hb⟩

theorem containsFunc_bal (l : List Bal) (K : Nat) (p : Bal → Bool) (hK : Hid (AsksB K p)) (eg : ∀ args w, (callFunc K args).run Tryz.prog w = .ok (.enter K args) w) (A : Option Addr) (n cap : Nat) (w : World) (hl : n ≤ 9223372036854775807) (ha : Rd w 4 balEnc A n l) :
    Calls Tryz.prog 108 #[.slice A n cap, .func (.func K) #[] #[]] w
      fun e w' => e = .returned (.bool (l.any p)) ∧ Below w.heap.size w w' := by
  have HA := hide (idxBal_any l p)
  go_enter Tryz.func108, Tryz.ntmps108
  go_wp2_with fail
  refine (indexFunc_bal l K p hK eg _ _ _ _ hl ha).mono ?_
  rintro e w1 ⟨rfl, hb1⟩
  go_wp2_with fail
  go_ret
  exact ⟨ret_bool HA.out, hb1⟩

theorem asks_over : AsksB 109 (fun x => !mayB x.amt) := by
  intro x w
  go_enter Tryz.func109, Tryz.ntmps109
  go_wp2_with fail
  refine (may_any x.amt _).mono ?_
  rintro e w1 ⟨rfl, rfl⟩
  go_wp2_with fail
  go_ret
  exact ⟨rfl, (Below.refl _ _).alloc (Nat.le_refl _) _⟩

set_option maxRecDepth 100000 in
theorem placeLaw : WideMaps.KeyLaw Tryz.prog 164 := deep_law_laid laid_out (m := 2) (by omega) (of_decide_eq_true (by kernel_rfl)) (by kernel_rfl) wide_place
theorem grown_set {w : World} {m : Nat} {es : Array MapEntry} {clock : Nat} {o' : Obj} (h : w.heap[m]? = some (.map es clock)) : w.grownBy (ChangeMaps.setBlock w m o') (some m) :=
  ⟨rfl, rfl, rfl, by simp [ChangeMaps.setBlock], fun i _ hi => ChangeMaps.heap_setBlock_other h _ (fun e => hi (by rw [e]))⟩

theorem lit_inj {a b : Int} (h : (DataW.lit (.int .i64 a) : DataW Unit) = .lit (.int .i64 b)) : a = b := by
  injection h with h
  injection h
set_option maxRecDepth 100000 in
/-- behind the entry's laying the look-up says as ahead of it -/
theorem Sums.mid {w w1 : World} {m n : Nat} {S : List Bal} (h : Sums w m n S) (hn : n < maxLen) (p : Pl) (hp : PlFits p) {r : Value}
    (hE : (Instr.mapEntry 161 (.map (some m)) (plKey p)).run Tryz.prog w = .ok r w1) :
    (Instr.lookup 161 (.map (some m)) (plKey p) false).run Tryz.prog w1 = .ok (.int .i64 (totB S p)) w1 := by
  obtain ⟨D, hown, h2, h3, h4, h5⟩ := h
  have hcopy := hown
  obtain ⟨es, clock, hb, F, hs, hD⟩ := hown
  have hat := h5 p hp
  have hkey := keyOf_pl hp
  have ht := Tryz.underlying161
  rcases placeLaw.find w hkey es.toList F.keys with ⟨h1, habs⟩ | ⟨j, e0, h1, hj, hk0⟩
  · have hE2 : (Instr.mapEntry 161 (.map (some m)) (plKey p)).run Tryz.prog w = .ok (.tuple #[.int .i64 0, goInt clock]) (ChangeMaps.setBlock w m (.map (es.push ⟨plKey p, .int .i64 0, clock⟩) (clock + 1))) := by
      simp [Instr.mapEntry, run_underlying ht, MapKept.run_getObj_map hb, placeLaw.check w false hkey, h1, zeroInt w, MapKept.run_setObj_map _ hb, Result.andThen, ChangeMaps.setBlock]
    have hU2 : (Instr.mapUpdate 161 (.map (some m)) (plKey p) (.int .i64 0)).run Tryz.prog w = .ok () (ChangeMaps.setBlock w m (.map (es.push ⟨plKey p, .int .i64 0, clock⟩) (clock + 1))) := by
      simp [Instr.mapUpdate, run_underlying ht, MapKept.run_getObj_map hb, placeLaw.check w false hkey, h1, MapKept.run_setObj_map _ hb, Result.andThen, ChangeMaps.setBlock]
    obtain ⟨w', r1, r2, r3⟩ := hcopy.update placeKey ht hn hkey (plainElem_int Tryz.underlying3 (show (Lit.int .i64 0).wf = true by decide))
    have e1 := (Result.ok.inj (hU2.symm.trans r1)).2
    have e2 := (Result.ok.inj (hE2.symm.trans hE)).2
    rw [← e1, e2] at r2
    obtain ⟨c, hrun, hc, _⟩ := r2.lookup_int placeKey ht Tryz.underlying3 (zeroInt w1) hkey
    have hc := lit_inj ((atKey_put_same h2.isMap (plLit_key hp) _ _).symm.trans hc)
    have h0 : totB S p = 0 := by
      rcases Maps.fit_look false placeKey ht (zeroInt w) hb F hkey with ⟨_, _, hz⟩ | ⟨e1, y, hm1, hk1, _⟩
      · exact (lit_inj ((hz _).symm.trans (by rw [← hD]; exact hat))).symm
      · exact absurd hk1 (habs e1 hm1)
    rw [hrun, h0, hc]
  · have hj' : es[j]? = some e0 := by simpa using hj
    have hsame : es.modify j (fun e => { e with key := plKey p }) = es := by
      apply Array.ext'
      rw [Array.toList_modify, ChangeMaps.modify_eq_set _ _ _ _ hj]
      have : ({ e0 with key := plKey p } : MapEntry) = e0 := by rw [← hk0]
      show es.toList.set j { e0 with key := plKey p } = _
      rw [this]
      exact WideElems.set_self _ _ _ hj
    have hE2 : (Instr.mapEntry 161 (.map (some m)) (plKey p)).run Tryz.prog w = .ok (.tuple #[e0.val, goInt e0.born]) (ChangeMaps.setBlock w m (.map es clock)) := by
      simp [Instr.mapEntry, run_underlying ht, MapKept.run_getObj_map hb, placeLaw.check w false hkey, h1, hj', hk0, placeLaw.stays w hkey, hsame, MapKept.run_setObj_map _ hb, Result.andThen, ChangeMaps.setBlock]
    have e2 := (Result.ok.inj (hE2.symm.trans hE)).2
    have r2 : w1.ownsMap Tryz.prog 164 (plainElem Tryz.prog 3) m n D := by
      rw [← e2]
      exact ⟨es, clock, ChangeMaps.heap_setBlock_same hb _, F, hs, hD⟩
    obtain ⟨c, hrun, hc, _⟩ := r2.lookup_int placeKey ht Tryz.underlying3 (zeroInt w1) hkey
    rw [hrun, lit_inj (hat.symm.trans hc)]

set_option maxRecDepth 100000 in
/-- 's[p] += n': the entry is laid or found, the sum stored in it -/
theorem Sums.bump {w : World} {m n : Nat} {S : List Bal} (h : Sums w m n S) (hn : n < maxLen) (x : Bal) (hx : PlFits x.pl) {c : Int} (hc : c = totB S x.pl + x.amt) (hw : (Lit.int .i64 c).wf = true) :
    ∃ (v0 : Value) (st : Nat) (w1 w2 : World), (Instr.mapEntry 161 (.map (some m)) (plKey x.pl)).run Tryz.prog w = .ok (.tuple #[v0, .int .i64 st]) w1 ∧
      (Instr.lookup 161 (.map (some m)) (plKey x.pl) false).run Tryz.prog w1 = .ok (.int .i64 (totB S x.pl)) w1 ∧
      (Instr.entryStore 161 (.map (some m)) (.int .i64 st) (.int .i64 c)).run Tryz.prog w1 = .ok () w2 ∧ Sums w2 m (n + 1) (S ++ [x]) ∧ w.grownBy w2 (some m) := by
  obtain ⟨D, hown, h2, h3, h4, h5⟩ := h
  have hcopy := hown
  obtain ⟨es, clock, hb, F, hs, hD⟩ := hown
  obtain ⟨v0, st, es1, clock1, hE, hcase, hS⟩ := WideElems.entry_then_store (t := 161) placeLaw Tryz.underlying161 (fun u => zeroInt u) hb F (keyOf_pl hx)
  have hb1 := ChangeMaps.heap_setBlock_same hb (.map es1 clock1)
  obtain ⟨es', clock', hst, hup⟩ := hS _ (.int .i64 c) hb1
  obtain ⟨w', r1, r2, r3⟩ := hcopy.update placeKey Tryz.underlying161 hn (keyOf_pl hx) (plainElem_int Tryz.underlying3 hw)
  have e1 := (Result.ok.inj (hup.symm.trans r1)).2
  rw [← e1] at r2
  refine ⟨v0, st, _, _, hE, Sums.mid ⟨D, hcopy, h2, h3, h4, h5⟩ hn x.pl hx hE, hst, ?_, ?_⟩
  · refine Sums.put x hx hc h2 h3 h4 h5 ?_
    obtain ⟨es2, clock2, hb2, F2, hs2, hD2⟩ := r2
    rw [ChangeMaps.heap_setBlock_same hb] at hb2
    exact ⟨es2, clock2, (ChangeMaps.heap_setBlock_same hb1 _).trans hb2, F2, hs2, hD2⟩
  · exact (grown_set (o' := .map es1 clock1) hb).trans (grown_set hb1)
end Go.Proofs.YthmjkhlndphldaaGreatDoor

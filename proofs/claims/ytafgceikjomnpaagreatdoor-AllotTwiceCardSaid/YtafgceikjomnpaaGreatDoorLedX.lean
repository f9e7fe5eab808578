/- ledger.sums.list: what it returns. -/
import Derived.Test.YtafgceikjomnpaaGreatDoorLedA
import Derived.Test.YtafgceikjomnpaaGreatDoorLedS
import Derived.WideKeyEntry
namespace Go.Proofs.YtafgceikjomnpaaGreatDoor
open Go Go.RowKit Go.Maps
set_option linter.unusedVariables false

theorem plKey_mk (e : Int) (a c : ByteArray) : plKey ⟨e, a, c⟩ = .agg #[.int .i64 e, .string a, .string c] := rfl

set_option maxHeartbeats 4000000 in
set_option maxRecDepth 100000 in
theorem list_any (S : List Bal) (m nn : Nat) (w : World) (hS : Sums w m nn S) (hfits : ∀ x, x ∈ S → PlFits x.pl) (hnn : (canonB S).length ≤ 9223372036854775807) :
    Calls Tryz.prog 18 #[.map (some m)] w fun e w' =>
      ((200 < (canonB S).length ∧ e = .returned (.tuple #[.slice none 0 0, .iface 52 (.int .i64 4)])) ∨
        (¬ 200 < (canonB S).length ∧ ∃ v, e = .returned (.tuple #[v, .nilIface]) ∧ Own w' w.heap.size 36 4 balEnc v (netB S))) ∧ Below w.heap.size w w' := by
  obtain ⟨i0, hi0, hz0, hz1, hz2⟩ := info_parts bal_info
  obtain ⟨D, hown, htidy, hsize, hhas, hat⟩ := hS
  have hmw := hown.lt
  have HSZ := hide hsize
  generalize hcl : (canonB S).length = cl at hsize hnn ⊢
  have HCL := hide hcl
  have HFI := hide hfits
  have HHAS := hide hhas
  have HAT := hide hat
  clear hcl hfits hhas hat htidy
  by_cases h200 : 200 < cl
  · have h1 : (200 : Int) < (cl : Int) := by omega
    go_enter Tryz.func18, Tryz.ntmps18
    go_wp2_with (first | (at_len; refine wpList_len_own _ rfl _ 60 rfl 63 3 Tryz.underlying60 _ m nn D rfl hown ?_; rw [hsize]))
    go_ret2
    exact ⟨.inl ⟨h200, rfl⟩, Below.refl _ _⟩
  · have h1 : ¬ (200 : Int) < (cl : Int) := by omega
    have hcl200 : cl ≤ 200 := by omega
    go_enter Tryz.func18, Tryz.ntmps18
    go_wp2_with (first | (at_len; refine wpList_len_own _ rfl _ 60 rfl 63 3 Tryz.underlying60 _ m nn D rfl hown ?_; rw [hsize]) | (at_range; refine wpList_range_own _ rfl _ 60 rfl 63 3 placeKey Tryz.underlying60 _ m nn D rfl hown ?_; intro w0 hrg0 hg0 hs0))
    rw [hsize] at hrg0
    have hb0 : Below w.heap.size w w0 := ⟨hg0.os, hg0.tape, hg0.output, hg0.size, fun i hi => hg0.block i hi (by simp)⟩
    go_loopw [4] (fun ov wr => ∃ (left : Lit → Bool) (cnt : Nat) (cs : List Bal), wr.ranges Tryz.prog 63 (plainElem Tryz.prog 3) m w.heap.size nn D left cnt ∧ Own wr (w.heap.size + 1) 36 4 balEnc ov cs ∧ Coll S left cs ∧ cs.length + cnt ≤ cl ∧ Below w.heap.size w wr) (fun _ wr => wr.rangeLeft m w.heap.size)
    case atStart => exact ⟨_, _, [], hrg0, Own.nil _ _ _ _ _, Coll.start HHAS.out, by simp, hb0⟩
    case round =>
      clear hrg0 hb0 hown
      obtain ⟨left, cnt, cs, hrg, hown, hcoll, hlen, hbr⟩ := hrel
      have hrl := hrg.lt
      have hre := hrg.left_eq
      go_wp2_with (first | (at_next; refine wpList_next_ranges _ rfl _ rfl 63 placeKey _ plKey (Value.int .i64) (fun key kl hk => by obtain ⟨p, hp, _⟩ := keyOf_inv hk; exact ⟨p, hp⟩) (fun v y hv => by obtain ⟨c, hc, _⟩ := plainElem_int_inv Tryz.underlying3 hv; exact ⟨c, hc⟩) m w.heap.size nn D left cnt rfl hrg ?_ ?_))
      · intro hc0 hl0
        have HN := fun (s : List Bal) (hp : s.Perm cs) (hw : s.Pairwise fun x y => Pl.lt y.pl x.pl = false) => hcoll.net hl0 HFI.out hp hw
        clear hl0 hcoll hrg hre
        have hw1 : w.heap.size + 1 ≤ wr.heap.size := by omega
        go_wp2_with fail
        refine (sort_bals cs _ _ wr hown hw1 (by omega)).mono ?_
        rintro e w3 ⟨rfl, s, hp, hw, hown3, hg3⟩
        have HS := hide (HN s hp hw)
        have hbl := fun k e => (hown.block k e).1
        obtain ⟨VA, vc, rfl, hvc, hvm⟩ := hown.form
        have hlen3 : s.length = cs.length := hp.length_eq
        clear HN hp hw hown
        go_wp2_with fail
        go_ret2
        exact ⟨.inr ⟨h200, _, rfl, by rw [← HS.out]; exact Own.wider hown3 (by omega)⟩, hbr.grown hg3 hbr.size (fun k e => by have := hbl k e; omega)⟩
      · intro x c kl ya yp w2 cnt2 hkey hlk hv hat2 hrg2 hlt2 hg2 hs2 hen
        obtain ⟨p, ep, hpf, rfl⟩ := keyOf_inv hkey
        obtain rfl := plKey_inj ep
        have hc : c = totB S x := by
          obtain ⟨c', ec, hya, _⟩ := plainElem_int_inv Tryz.underlying3 hv
          injection ec with _ ec
          simp only [Prod.mk.injEq] at hya
          have h := HAT.out x hpf
          rw [hat2, hya.1] at h
          injection h with h
          injection h with _ h
          rw [ec]; exact h
        have hown2 := hown.grown hg2 (.inr (fun e => by have := (hown.block _ e).1; omega))
        have hb2 : Below w.heap.size w w2 := hbr.grown hg2 hbr.size (fun k e => by injection e with e; omega)
        have hsz2 : w.heap.size < w2.heap.size := by omega
        clear hs2 hkey hv hat2 ep hown
        obtain ⟨pe, pa, pc⟩ := x
        rw [plKey_mk] at hen ⊢
        obtain ⟨VA, vc, rfl, hvc, hvm⟩ := hown2.form
        have hcs : cs.length < 200 := by omega
        by_cases hz : c = 0
        · have hzc : (c != 0) = false := by simp [hz]
          have HK := hide (hcoll.skip hpf (by rw [← hc]; exact hz))
          clear hc hz
          go_wp2_with fail
          go_roundw
          case rel => exact ⟨_, cnt2, cs, hrg2.alloc _, hown2.alloc _, HK.out, by omega, hb2.alloc hb2.size _⟩
          case measure => rw [(hrg2.alloc _).left_eq, hre]; exact hlt2
        · have hzc : (c != 0) = true := by simp [hz]
          have HK := hide (hcoll.take (x := ⟨pe, pa, pc, c⟩) hpf hlk hc hz)
          clear hc hz
          go_wp2_with (first | (at_builtin; go_loud (refine wpList_push _ rfl _ _ 24 rfl (w.heap.size + 1) 36 i0 zeroBal 4 48 Tryz.underlying24 hi0 hz0 hz1 hz2 rfl (by decide) balEnc_ok _ cs rfl ((hown2.alloc _).alloc _) _ 1 1 [⟨pe, pa, pc, c⟩] rfl (Rd.boxedAt _ balEnc_ok ⟨pe, pa, pc, c⟩ _ _ rfl _ (by simp)) (by intro h; cases h) (by unfold maxLen; omega) (by omega) (by simp; omega) ?_); intro v3 w3 hown3 hg3 hat3))
          go_roundw
          case rel => exact ⟨_, cnt2, _, ((hrg2.alloc _).alloc _).kept hg3 (fun e => by have := (hown2.block _ e.symm).1; omega) (fun e => by have := (hown2.block _ e.symm).1; omega), hown3, HK.out, by simp; omega, ((hb2.alloc hb2.size _).alloc (by simp; omega) _).grown hg3 (by simp; omega) (fun k e => by have := (hown2.block k e).1; omega)⟩
          case measure => rw [(((hrg2.alloc _).alloc _).kept hg3 (fun e => by have := (hown2.block _ e.symm).1; omega) (fun e => by have := (hown2.block _ e.symm).1; omega)).left_eq, hre]; exact hlt2
end Go.Proofs.YtafgceikjomnpaaGreatDoor

namespace Go.Proofs.YtafgceikjomnpaaGreatDoor
open Go Go.RowKit Go.Maps
set_option linter.unusedVariables false

def idxBal (l : List Bal) (p : Bal → Bool) : Int := match l.findIdx? p with | some k => (k : Int) | none => -1
theorem NoTo.hitI {l : List Bal} {p : Bal → Bool} {k : Nat} (h : NoTo p l k) (hk : k < l.length) (hc : p l[k] = true) : idxBal l p = (k : Int) := by
  have : l.findIdx? p = some k := by
    rw [List.findIdx?_eq_some_iff_getElem]
    exact ⟨hk, hc, fun j hj => by rw [h j (by omega) hj]; decide⟩
  simp [idxBal, this]
theorem NoTo.missI {l : List Bal} {p : Bal → Bool} {k : Nat} (h : NoTo p l k) (hk : l.length ≤ k) : idxBal l p = -1 := by
  have : l.findIdx? p = none := by
    rw [List.findIdx?_eq_none_iff]
    intro x hx
    obtain ⟨j, hj, rfl⟩ := List.getElem_of_mem hx
    exact h j hj (by omega)
  simp [idxBal, this]
theorem idxBal_any (l : List Bal) (p : Bal → Bool) : decide (0 ≤ idxBal l p) = l.any p := by
  unfold idxBal
  cases h : l.findIdx? p with
  | none =>
    rw [List.findIdx?_eq_none_iff] at h
    have : l.any p = false := by rw [List.any_eq_false]; intro x hx; rw [h x hx]; decide
    rw [this]; rfl
  | some k =>
    obtain ⟨hk, hc, _⟩ := List.findIdx?_eq_some_iff_getElem.1 h
    have : l.any p = true := List.any_eq_true.2 ⟨_, List.getElem_mem hk, hc⟩
    rw [this]; simp
/-- what is asked of a function of balances: it says p, and turns nothing -/
def AsksB (K : Nat) (p : Bal → Bool) : Prop := ∀ (x : Bal) (w : World), Calls Tryz.prog K #[.agg #[.int .i64 x.ent, .string x.acc, .string x.cur, .int .i64 x.amt]] w fun e w' => e = .returned (.bool (p x)) ∧ Below w.heap.size w w'

set_option maxRecDepth 100000 in
theorem indexFunc_bal (l : List Bal) (K : Nat) (p : Bal → Bool) (hK : Hid (AsksB K p)) (eg : ∀ args w, (callFunc K args).run Tryz.prog w = .ok (.enter K args) w) (A : Option Addr) (n cap : Nat) (w : World) (hl : n ≤ 9223372036854775807) (ha : Rd w 4 balEnc A n l) :
    Calls Tryz.prog 40 #[.slice A n cap, .func (.func K) #[] #[]] w
      fun e w' => e = .returned (.int .i64 (idxBal l p)) ∧ Below w.heap.size w w' := by
  have Hn := hide ha.1
  go_enter Tryz.func40, Tryz.ntmps40
  go_wp2_with fail
  go_loopw [8] (fun i wr => ∃ k : Nat, k ≤ n ∧ i = .int .i64 k ∧ NoTo p l k ∧ Below w.heap.size w wr) (fun i _ => n - (intOf i).toNat)
  case atStart => exact ⟨0, by omega, rfl, NoTo.zero _ _, Below.refl _ _⟩
  case round =>
    obtain ⟨k, hk, rfl, hno, hb⟩ := hrel
    have HNo := hide hno
    clear hno
    by_cases hlt : k < n
    · obtain ⟨b, off, rfl, hcs⟩ := (Rd.below ha hb).2 (by omega)
      have hkl : k < l.length := by have := Hn.out; omega
      have h0 := hcs k 0 _ hkl rfl
      have h1 := hcs k 1 _ hkl rfl
      have h2 := hcs k 2 _ hkl rfl
      have h3 := hcs k 3 _ hkl rfl
      rw [Nat.add_zero] at h0
      clear hcs
      cases hp : p l[k] with
      | true =>
        have HP := hide hp
        clear hp
        go_wp2_with fail
        refine (hK.out l[k] _).mono ?_
        rintro e w1 ⟨rfl, hb1⟩
        rw [HP.out]
        go_wp2_with fail
        go_ret
        exact ⟨ret_int (HNo.out.hitI hkl HP.out).symm, bthen hb (Nat.le_refl _) hb1⟩
      | false =>
        have HP := hide hp
        clear hp
        go_wp2_with fail
        refine (hK.out l[k] _).mono ?_
        rintro e w1 ⟨rfl, hb1⟩
        rw [HP.out]
        go_wp2_with fail
        go_roundw
        case rel => exact ⟨k + 1, by omega, by go_num, HNo.out.succ hkl HP.out, bthen hb (Nat.le_refl _) hb1⟩
        case measure => simp [intOf]; omega
    · go_wp2_with fail
      go_ret
      exact ⟨ret_int (HNo.out.missI (by have := Hn.out; omega)).symm, hb⟩

theorem containsFunc_bal (l : List Bal) (K : Nat) (p : Bal → Bool) (hK : Hid (AsksB K p)) (eg : ∀ args w, (callFunc K args).run Tryz.prog w = .ok (.enter K args) w) (A : Option Addr) (n cap : Nat) (w : World) (hl : n ≤ 9223372036854775807) (ha : Rd w 4 balEnc A n l) :
    Calls Tryz.prog 19 #[.slice A n cap, .func (.func K) #[] #[]] w
      fun e w' => e = .returned (.bool (l.any p)) ∧ Below w.heap.size w w' := by
  have HA := hide (idxBal_any l p)
  go_enter Tryz.func19, Tryz.ntmps19
  go_wp2_with fail
  refine (indexFunc_bal l K p hK eg _ _ _ _ hl ha).mono ?_
  rintro e w1 ⟨rfl, hb1⟩
  go_wp2_with fail
  go_ret
  exact ⟨ret_bool HA.out, hb1⟩

theorem asks_over : AsksB 20 (fun x => !mayB x.amt) := by
  intro x w
  go_enter Tryz.func20, Tryz.ntmps20
  go_wp2_with fail
  refine (may_any x.amt _).mono ?_
  rintro e w1 ⟨rfl, rfl⟩
  go_wp2_with fail
  go_ret
  exact ⟨rfl, (Below.refl _ _).alloc (Nat.le_refl _) _⟩

set_option maxRecDepth 100000 in
theorem placeLaw : WideMaps.KeyLaw Tryz.prog 63 := deep_law_laid laid_out (m := 2) (by omega) (of_decide_eq_true (by kernel_rfl)) (by kernel_rfl) wide_place
theorem grown_set {w : World} {m : Nat} {es : Array MapEntry} {clock : Nat} {o' : Obj} (h : w.heap[m]? = some (.map es clock)) : w.grownBy (ChangeMaps.setBlock w m o') (some m) :=
  ⟨rfl, rfl, rfl, by simp [ChangeMaps.setBlock], fun i _ hi => ChangeMaps.heap_setBlock_other h _ (fun e => hi (by rw [e]))⟩

theorem lit_inj {a b : Int} (h : (DataW.lit (.int .i64 a) : DataW Unit) = .lit (.int .i64 b)) : a = b := by
  injection h with h
  injection h
set_option maxRecDepth 100000 in
/-- behind the entry's laying the look-up says as ahead of it -/
theorem Sums.mid {w w1 : World} {m n : Nat} {S : List Bal} (h : Sums w m n S) (hn : n < maxLen) (p : Pl) (hp : PlFits p) {r : Value}
    (hE : (Instr.mapEntry 60 (.map (some m)) (plKey p)).run Tryz.prog w = .ok r w1) :
    (Instr.lookup 60 (.map (some m)) (plKey p) false).run Tryz.prog w1 = .ok (.int .i64 (totB S p)) w1 := by
  obtain ⟨D, hown, h2, h3, h4, h5⟩ := h
  have hcopy := hown
  obtain ⟨es, clock, hb, F, hs, hD⟩ := hown
  have hat := h5 p hp
  have hkey := keyOf_pl hp
  have ht := Tryz.underlying60
  rcases placeLaw.find w hkey es.toList F.keys with ⟨h1, habs⟩ | ⟨j, e0, h1, hj, hk0⟩
  · have hE2 : (Instr.mapEntry 60 (.map (some m)) (plKey p)).run Tryz.prog w = .ok (.tuple #[.int .i64 0, goInt clock]) (ChangeMaps.setBlock w m (.map (es.push ⟨plKey p, .int .i64 0, clock⟩) (clock + 1))) := by
      simp [Instr.mapEntry, run_underlying ht, MapKept.run_getObj_map hb, placeLaw.check w false hkey, h1, zeroInt w, MapKept.run_setObj_map _ hb, Result.andThen, ChangeMaps.setBlock]
    have hU2 : (Instr.mapUpdate 60 (.map (some m)) (plKey p) (.int .i64 0)).run Tryz.prog w = .ok () (ChangeMaps.setBlock w m (.map (es.push ⟨plKey p, .int .i64 0, clock⟩) (clock + 1))) := by
      simp [Instr.mapUpdate, run_underlying ht, MapKept.run_getObj_map hb, placeLaw.check w false hkey, h1, MapKept.run_setObj_map _ hb, Result.andThen, ChangeMaps.setBlock]
    obtain ⟨w', r1, r2, r3⟩ := hcopy.update placeKey ht hn hkey (plainElem_int Tryz.underlying3 (show (Lit.int .i64 0).wf = true by decide))
    have e1 := (Result.ok.inj (hU2.symm.trans r1)).2
    have e2 := (Result.ok.inj (hE2.symm.trans hE)).2
    rw [← e1, e2] at r2
    obtain ⟨c, hrun, hc, _⟩ := r2.lookup_int placeKey ht Tryz.underlying3 (zeroInt w1) hkey
    have hc := lit_inj ((atKey_put_same h2.isMap (plLit_key hp) _ _).symm.trans hc)
    have h0 : totB S p = 0 := by
      rcases Maps.fit_look false placeKey ht (zeroInt w) hb F hkey with ⟨_, _, hz⟩ | ⟨e1, y, hm1, hk1, _⟩
      · exact (lit_inj ((hz _).symm.trans (by rw [← hD]; exact hat))).symm
      · exact absurd hk1 (habs e1 hm1)
    rw [hrun, h0, hc]
  · have hj' : es[j]? = some e0 := by simpa using hj
    have hsame : es.modify j (fun e => { e with key := plKey p }) = es := by
      apply Array.ext'
      rw [Array.toList_modify, ChangeMaps.modify_eq_set _ _ _ _ hj]
      have : ({ e0 with key := plKey p } : MapEntry) = e0 := by rw [← hk0]
      show es.toList.set j { e0 with key := plKey p } = _
      rw [this]
      exact WideElems.set_self _ _ _ hj
    have hE2 : (Instr.mapEntry 60 (.map (some m)) (plKey p)).run Tryz.prog w = .ok (.tuple #[e0.val, goInt e0.born]) (ChangeMaps.setBlock w m (.map es clock)) := by
      simp [Instr.mapEntry, run_underlying ht, MapKept.run_getObj_map hb, placeLaw.check w false hkey, h1, hj', hk0, placeLaw.stays w hkey, hsame, MapKept.run_setObj_map _ hb, Result.andThen, ChangeMaps.setBlock]
    have e2 := (Result.ok.inj (hE2.symm.trans hE)).2
    have r2 : w1.ownsMap Tryz.prog 63 (plainElem Tryz.prog 3) m n D := by
      rw [← e2]
      exact ⟨es, clock, ChangeMaps.heap_setBlock_same hb _, F, hs, hD⟩
    obtain ⟨c, hrun, hc, _⟩ := r2.lookup_int placeKey ht Tryz.underlying3 (zeroInt w1) hkey
    rw [hrun, lit_inj (hat.symm.trans hc)]

set_option maxRecDepth 100000 in
/-- 's[p] += n': the entry is laid or found, the sum stored in it -/
theorem Sums.bump {w : World} {m n : Nat} {S : List Bal} (h : Sums w m n S) (hn : n < maxLen) (x : Bal) (hx : PlFits x.pl) {c : Int} (hc : c = totB S x.pl + x.amt) (hw : (Lit.int .i64 c).wf = true) :
    ∃ (v0 : Value) (st : Nat) (w1 w2 : World), (Instr.mapEntry 60 (.map (some m)) (plKey x.pl)).run Tryz.prog w = .ok (.tuple #[v0, .int .i64 st]) w1 ∧
      (Instr.lookup 60 (.map (some m)) (plKey x.pl) false).run Tryz.prog w1 = .ok (.int .i64 (totB S x.pl)) w1 ∧
      (Instr.entryStore 60 (.map (some m)) (.int .i64 st) (.int .i64 c)).run Tryz.prog w1 = .ok () w2 ∧ Sums w2 m (n + 1) (S ++ [x]) ∧ w.grownBy w2 (some m) := by
  obtain ⟨D, hown, h2, h3, h4, h5⟩ := h
  have hcopy := hown
  obtain ⟨es, clock, hb, F, hs, hD⟩ := hown
  obtain ⟨v0, st, es1, clock1, hE, hcase, hS⟩ := WideElems.entry_then_store (t := 60) placeLaw Tryz.underlying60 (fun u => zeroInt u) hb F (keyOf_pl hx)
  have hb1 := ChangeMaps.heap_setBlock_same hb (.map es1 clock1)
  obtain ⟨es', clock', hst, hup⟩ := hS _ (.int .i64 c) hb1
  obtain ⟨w', r1, r2, r3⟩ := hcopy.update placeKey Tryz.underlying60 hn (keyOf_pl hx) (plainElem_int Tryz.underlying3 hw)
  have e1 := (Result.ok.inj (hup.symm.trans r1)).2
  rw [← e1] at r2
  refine ⟨v0, st, _, _, hE, Sums.mid ⟨D, hcopy, h2, h3, h4, h5⟩ hn x.pl hx hE, hst, ?_, ?_⟩
  · refine Sums.put x hx hc h2 h3 h4 h5 ?_
    obtain ⟨es2, clock2, hb2, F2, hs2, hD2⟩ := r2
    rw [ChangeMaps.heap_setBlock_same hb] at hb2
    exact ⟨es2, clock2, (ChangeMaps.heap_setBlock_same hb1 _).trans hb2, F2, hs2, hD2⟩
  · exact (grown_set (o' := .map es1 clock1) hb).trans (grown_set hb1)
end Go.Proofs.YtafgceikjomnpaaGreatDoor

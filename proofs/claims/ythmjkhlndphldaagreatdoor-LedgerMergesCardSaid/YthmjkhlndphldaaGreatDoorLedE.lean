/- ledger.sums.list: what it returns. -/
import Derived.Test.YthmjkhlndphldaaGreatDoorLedA
import Derived.Test.YthmjkhlndphldaaGreatDoorLedS
namespace Go.Proofs.YthmjkhlndphldaaGreatDoor
open Go Go.RowKit Go.Maps
set_option linter.unusedVariables false

theorem plKey_mk (e : Int) (a c : ByteArray) : plKey ⟨e, a, c⟩ = .agg #[.int .i64 e, .string a, .string c] := rfl

set_option maxHeartbeats 4000000 in
set_option maxRecDepth 100000 in
theorem list_any (S : List Bal) (m nn : Nat) (w : World) (hS : Sums w m nn S) (hfits : ∀ x, x ∈ S → PlFits x.pl) (hnn : (canonB S).length ≤ 9223372036854775807) :
    Calls Tryz.prog 107 #[.map (some m)] w fun e w' =>
      ((200 < (canonB S).length ∧ e = .returned (.tuple #[.slice none 0 0, .iface 108 (.int .i64 4)])) ∨
        (¬ 200 < (canonB S).length ∧ ∃ v, e = .returned (.tuple #[v, .nilIface]) ∧ Own w' w.heap.size 73 4 balEnc v (netB S))) ∧ Below w.heap.size w w' := by
  obtain ⟨i0, hi0, hz0, hz1, hz2⟩ := info_parts bal_info
  obtain ⟨D, hown, htidy, hsize, hhas, hat⟩ := hS
  have hmw := hown.lt
  have HSZ := hide hsize
  generalize hcl : (canonB S).length = cl at hsize hnn ⊢
  have HCL := hide hcl
  have HFI := hide hfits
  have HHAS := hide hhas
  have HAT := hide hat
  clear hcl hfits hhas hat htidy
  by_cases h200 : 200 < cl
  · have h1 : (200 : Int) < (cl : Int) := by omega
    go_enter Tryz.func107, Tryz.ntmps107
    go_wp2_with (first | (at_len; refine wpList_len_own _ rfl _ 161 rfl 164 3 Tryz.underlying161 _ m nn D rfl hown ?_; rw [hsize]))
    go_ret2
    exact ⟨.inl ⟨h200, rfl⟩, Below.refl _ _⟩
  · have h1 : ¬ (200 : Int) < (cl : Int) := by omega
    have hcl200 : cl ≤ 200 := by omega
    go_enter Tryz.func107, Tryz.ntmps107
    go_wp2_with (first | (at_len; refine wpList_len_own _ rfl _ 161 rfl 164 3 Tryz.underlying161 _ m nn D rfl hown ?_; rw [hsize]) | (at_range; refine wpList_range_own _ rfl _ 161 rfl 164 3 placeKey Tryz.underlying161 _ m nn D rfl hown ?_; intro w0 hrg0 hg0 hs0))
    rw [hsize] at hrg0
    have hb0 : Below w.heap.size w w0 := ⟨hg0.os, hg0.tape, hg0.output, hg0.size, fun i hi => hg0.block i hi (by simp)⟩
    go_loopw [4] (fun ov wr => ∃ (left : Lit → Bool) (cnt : Nat) (cs : List Bal), wr.ranges Tryz.prog 164 (plainElem Tryz.prog 3) m w.heap.size nn D left cnt ∧ Own wr (w.heap.size + 1) 73 4 balEnc ov cs ∧ Coll S left cs ∧ cs.length + cnt ≤ cl ∧ Below w.heap.size w wr) (fun _ wr => wr.rangeLeft m w.heap.size)
    case atStart => exact ⟨_, _, [], hrg0, Own.nil _ _ _ _ _, Coll.start HHAS.out, by simp, hb0⟩
    case round =>
      clear hrg0 hb0 hown
      obtain ⟨left, cnt, cs, hrg, hown, hcoll, hlen, hbr⟩ := hrel
      have hrl := hrg.lt
      have hre := hrg.left_eq
      go_wp2_with (first | (at_next; refine wpList_next_ranges _ rfl _ rfl 164 placeKey _ plKey (Value.int .i64) (fun key kl hk => by obtain ⟨p, hp, _⟩ := keyOf_inv hk; exact ⟨p, hp⟩) (fun v y hv => by obtain ⟨c, hc, _⟩ := plainElem_int_inv Tryz.underlying3 hv; exact ⟨c, hc⟩) m w.heap.size nn D left cnt rfl hrg ?_ ?_))
      · intro hc0 hl0
        have HN := fun (s : List Bal) (hp : s.Perm cs) (hw : s.Pairwise fun x y => Pl.lt y.pl x.pl = false) => hcoll.net hl0 HFI.out hp hw
        clear hl0 hcoll hrg hre
        have hw1 : w.heap.size + 1 ≤ wr.heap.size := by omega
        go_wp2_with fail
        refine (sort_bals cs _ _ wr hown hw1 (by omega)).mono ?_
        rintro e w3 ⟨rfl, s, hp, hw, hown3, hg3⟩
        have HS := hide (HN s hp hw)
        have hbl := fun k e => (hown.block k e).1
        obtain ⟨VA, vc, rfl, hvc, hvm⟩ := hown.form
        have hlen3 : s.length = cs.length := hp.length_eq
        clear HN hp hw hown
        go_wp2_with fail
        go_ret2
        exact ⟨.inr ⟨h200, _, rfl, by rw [← HS.out]; exact Own.wider hown3 (by omega)⟩, hbr.grown hg3 hbr.size (fun k e => by have := hbl k e; omega)⟩
      · intro x c kl ya yp w2 cnt2 hkey hlk hv hat2 hrg2 hlt2 hg2 hs2 hen
        obtain ⟨p, ep, hpf, rfl⟩ := keyOf_inv hkey
        obtain rfl := plKey_inj ep
        have hc : c = totB S x := by
          obtain ⟨c', ec, hya, _⟩ := plainElem_int_inv Tryz.underlying3 hv
          injection ec with _ ec
          simp only [Prod.mk.injEq] at hya
          have h := HAT.out x hpf
          rw [hat2, hya.1] at h
          injection h with h
          injection h with _ h
          rw [ec]; exact h
        have hown2 := hown.grown hg2 (.inr (fun e => by have := (hown.block _ e).1; omega))
        have hb2 : Below w.heap.size w w2 := hbr.grown hg2 hbr.size (fun k e => by injection e with e; omega)
        have hsz2 : w.heap.size < w2.heap.size := by omega
        clear hs2 hkey hv hat2 ep hown
        obtain ⟨pe, pa, pc⟩ := x
        rw [plKey_mk] at hen ⊢
        obtain ⟨VA, vc, rfl, hvc, hvm⟩ := hown2.form
        have hcs : cs.length < 200 := by omega
        by_cases hz : c = 0
        · have hzc : (c != 0) = false := by simp [hz]
          have HK := hide (hcoll.skip hpf (by rw [← hc]; exact hz))
          clear hc hz
          go_wp2_with fail
          go_roundw
          case rel => exact ⟨_, cnt2, cs, hrg2.alloc _, hown2.alloc _, HK.out, by omega, hb2.alloc hb2.size _⟩
          case measure => rw [(hrg2.alloc _).left_eq, hre]; exact hlt2
        · have hzc : (c != 0) = true := by simp [hz]
          have HK := hide (hcoll.take (x := ⟨pe, pa, pc, c⟩) hpf hlk hc hz)
          clear hc hz
          go_wp2_with (first | (at_builtin; go_loud (refine wpList_push _ rfl _ _ 74 rfl (w.heap.size + 1) 73 i0 zeroBal 4 48 Tryz.underlying74 hi0 hz0 hz1 hz2 rfl (by decide) balEnc_ok _ cs rfl ((hown2.alloc _).alloc _) _ 1 1 [⟨pe, pa, pc, c⟩] rfl (Rd.boxedAt _ balEnc_ok ⟨pe, pa, pc, c⟩ _ _ rfl _ (by simp)) (by intro h; cases h) (by unfold maxLen; omega) (by omega) (by simp; omega) ?_); intro v3 w3 hown3 hg3 hat3))
          go_roundw
          case rel => exact ⟨_, cnt2, _, ((hrg2.alloc _).alloc _).kept hg3 (fun e => by have := (hown2.block _ e.symm).1; omega) (fun e => by have := (hown2.block _ e.symm).1; omega), hown3, HK.out, by simp; omega, ((hb2.alloc hb2.size _).alloc (by simp; omega) _).grown hg3 (by simp; omega) (fun k e => by have := (hown2.block k e).1; omega)⟩
          case measure => rw [(((hrg2.alloc _).alloc _).kept hg3 (fun e => by have := (hown2.block _ e.symm).1; omega) (fun e => by have := (hown2.block _ e.symm).1; omega)).left_eq, hre]; exact hlt2
end Go.Proofs.YthmjkhlndphldaaGreatDoor

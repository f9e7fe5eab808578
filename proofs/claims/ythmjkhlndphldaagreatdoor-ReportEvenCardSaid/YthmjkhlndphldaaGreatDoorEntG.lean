/- entry.Reverse; entry.Net where nothing is left; slices.DeleteFunc where all goes. -/
import Derived.Test.YthmjkhlndphldaaGreatDoorJoinP
import Derived.Laws.CopyRow
namespace Go.Proofs.YthmjkhlndphldaaGreatDoor
open Go Go.RowKit
set_option linter.unusedVariables false

/-- clear at the head of a block of the call's own -/
theorem run_clear_row {P : Program} (w : World) (t e : TypeId) (z : Value) (ht : P.underlying t = some (.slice e)) (hv : ∀ w, (zeroValue e).run P w = .ok z w) (h1 : ∀ u ∈ z.cells.toList, u.oneCell' = true)
    (g n c : Nat) (cur : Array Value) (hg : w.heap[g]? = some (.cells cur e (0, 0))) (hn : 0 < n) (hs : n * z.cells.size ≤ cur.size) :
    ∃ w', (∀ ty, (Builtin.clear_ #[t] ty #[.slice (some ⟨g, 0, none⟩) n c]).run P w = .ok (.tuple #[]) w') ∧ w.grownBy w' (some g) := by
  have hzl : (Builtin.zeroCells z.cells n).toList.length = n * z.cells.size := by rw [Array.length_toList, size_zeroCells]
  have hst := run_storeCells_at P g 0 e (Builtin.zeroCells z.cells n).toList 0 cur w hg (by rw [hzl]; omega) (by
    intro v hv'
    obtain ⟨i, hi, rfl⟩ := List.getElem_of_mem hv'
    have hi' : i < n * z.cells.size := by rw [hzl] at hi; exact hi
    have hpos : 0 < z.cells.size := by
      rcases Nat.eq_zero_or_pos z.cells.size with h | h
      · rw [h] at hi'; omega
      · exact h
    have hm : i % z.cells.size < z.cells.size := Nat.mod_lt _ hpos
    have he : (Builtin.zeroCells z.cells n).toList[i] = z.cells[i % z.cells.size] := by
      simp [Builtin.zeroCells, getElem!_pos, hm]
    rw [he]
    exact h1 _ (Array.getElem_mem_toList hm))
  obtain ⟨m, rfl⟩ : ∃ m, n = m + 1 := ⟨n - 1, by omega⟩
  refine ⟨w.setRow g (cur.toList.take (0 + 0) ++ (Builtin.zeroCells z.cells (m + 1)).toList ++ cur.toList.drop (0 + 0 + (Builtin.zeroCells z.cells (m + 1)).toList.length)).toArray, fun ty => ?_, ?_⟩
  · simp [Builtin.clear_, run_underlying ht, hv, hst]
  · exact ⟨rfl, rfl, rfl, by simp, fun k _ hk => setRow_other w g k _ (fun e => hk (by rw [e]))⟩

theorem EntTwo.new (w : World) (ref : ByteArray) (ent per : Int) (v : Value) (o : Obj) :
    Below w.heap.size w ((w.alloc (.cells #[.string ref, .int .i64 ent, .int .i64 per, v] 25)).alloc o) ∧
    EntAt ((w.alloc (.cells #[.string ref, .int .i64 ent, .int .i64 per, v] 25)).alloc o) w.heap.size ref ent per v ∧
    ∀ q, ((w.alloc (.cells #[.string ref, .int .i64 ent, .int .i64 per, v] 25)).alloc o).frozen? ⟨w.heap.size, q, none⟩ = false := by
  have h1 : EntAt (w.alloc (.cells #[.string ref, .int .i64 ent, .int .i64 per, v] 25)) w.heap.size ref ent per v := by unfold EntAt; simp
  have hb : Below (w.alloc (.cells #[.string ref, .int .i64 ent, .int .i64 per, v] 25)).heap.size (w.alloc (.cells #[.string ref, .int .i64 ent, .int .i64 per, v] 25)) ((w.alloc (.cells #[.string ref, .int .i64 ent, .int .i64 per, v] 25)).alloc o) := (Below.refl _ _).alloc (Nat.le_refl _) _
  exact ⟨bof_alloc hb, h1.below hb, fun q => ((bcell hb).2 _ q (by simp)).trans (by simp)⟩
theorem EntTwo.res (w : World) (ref : ByteArray) (ent per : Int) (v : Value) :
    EntAt ((w.alloc (.cells #[.string ref, .int .i64 ent, .int .i64 per, v] 25)).alloc (.cells #[.string ⟨#[]⟩, .int .i64 0, .int .i64 0, .slice none 0 0] 25)) (w.heap.size + 1) ⟨#[]⟩ 0 0 (.slice none 0 0) := by
  have e : w.heap.size + 1 = (w.alloc (.cells #[.string ref, .int .i64 ent, .int .i64 per, v] 25)).heap.size := by simp
  rw [e]
  generalize w.alloc (.cells #[.string ref, .int .i64 ent, .int .i64 per, v] 25) = w1
  unfold EntAt; simp
theorem EntTwo.snd (w : World) (ref ref' : ByteArray) (ent per ent' per' : Int) (v v' : Value) :
    EntAt ((w.alloc (.cells #[.string ref, .int .i64 ent, .int .i64 per, v] 25)).alloc (.cells #[.string ref', .int .i64 ent', .int .i64 per', v'] 25)) (w.heap.size + 1) ref' ent' per' v' := by
  have e : w.heap.size + 1 = (w.alloc (.cells #[.string ref, .int .i64 ent, .int .i64 per, v] 25)).heap.size := by simp
  rw [e]
  generalize w.alloc (.cells #[.string ref, .int .i64 ent, .int .i64 per, v] 25) = w1
  unfold EntAt; simp
theorem EntTwo.res2 (w : World) (ref : ByteArray) (ent per : Int) (v : Value) (q : Nat) :
    ((w.alloc (.cells #[.string ref, .int .i64 ent, .int .i64 per, v] 25)).alloc (.cells #[.string ⟨#[]⟩, .int .i64 0, .int .i64 0, .slice none 0 0] 25)).frozen? ⟨w.heap.size + 1, q, none⟩ = false := by
  have e : w.heap.size + 1 = (w.alloc (.cells #[.string ref, .int .i64 ent, .int .i64 per, v] 25)).heap.size := by simp
  rw [e]
  generalize w.alloc (.cells #[.string ref, .int .i64 ent, .int .i64 per, v] 25) = w1
  simp

theorem EntAt.other {w : World} {g b o : Nat} {ref : ByteArray} {ent per : Int} {v u : Value} (h : EntAt w g ref ent per v) (hne : b ≠ g) : EntAt (w.setCell ⟨b, o, none⟩ u) g ref ent per v := by
  obtain ⟨h0, h1, h2, h3⟩ := h
  have hb : Below w.heap.size w w := Below.refl _ _
  have hc : ∀ q, (w.setCell ⟨b, o, none⟩ u).cell? ⟨g, q, none⟩ = w.cell? ⟨g, q, none⟩ := fun q => World.cell?_setCell_other _ _ _ _ (by first | (simp; done) | (simp; intro e; exact absurd e.symm hne))
  exact ⟨(hc 0).trans h0, (hc 1).trans h1, (hc 2).trans h2, (hc 3).trans h3⟩

theorem asks_isZ : Asks 81 isZ := by
  intro x w
  unfold isZ
  go_enter Tryz.func81, Tryz.ntmps81
  go_wp2_with fail
  go_ret
  exact ⟨rfl, (Below.refl _ _).alloc (Nat.le_refl _) _⟩

theorem zeroLineV (w : World) : (zeroValue 35).run Tryz.prog w = .ok zeroLine w := by kernel_rfl

set_option maxRecDepth 100000 in
theorem deleteAll (l : List Line) (K : Nat) (p : Line → Bool) (hK : Hid (Asks K p)) (eg : ∀ args w, (callFunc K args).run Tryz.prog w = .ok (.enter K args) w) (B : Nat) (v : Value) (w : World)
    (hown : Own w B 35 3 lineEnc v l) (hB : B ≤ w.heap.size) (hall : ∀ x, x ∈ l → p x = true) (hl : l.length ≤ 20) :
    Calls Tryz.prog 80 #[v, .func (.func K) #[] #[]] w fun e w' => ∃ A c, e = .returned (.slice A 0 c) ∧ Below B w w' := by
  obtain ⟨VA, vc, rfl, hvc, hvm⟩ := hown.form
  have hrd := hown.rd lineEnc_ok
  by_cases h0 : l.length = 0
  · have hl0 : l = [] := List.eq_nil_of_length_eq_zero h0
    subst hl0
    have hi : Hid (idxP ([] : List Line) p = -1) := rfl
    go_enter Tryz.func80, Tryz.ntmps80
    go_wp2_with fail
    refine (indexFunc_line [] K p hK eg _ _ _ _ (by simp) hrd).mono ?_
    rintro e w1 ⟨rfl, hb1⟩
    rw [hi.out]
    go_wp2_with fail
    go_ret
    exact ⟨_, _, rfl, hb1.mono hB⟩
  · obtain ⟨g, rfl⟩ := hown.addr (by omega)
    have hi : Hid (idxP l p = 0) := by
      show _ = _
      refine NoneP.hit (k := 0) (NoneP.zero _ _) (by omega) (hall _ (List.getElem_mem _))
    have hHall := hide hall
    clear hall
    go_enter Tryz.func80, Tryz.ntmps80
    go_wp2_with fail
    refine (indexFunc_line l K p hK eg _ _ _ _ (by omega) hrd).mono ?_
    rintro e w1 ⟨rfl, hb1⟩
    rw [hi.out]
    go_wp2_with fail
    go_loopw [5, 6] (fun iv jv wr => ∃ k : Nat, 1 ≤ k ∧ k ≤ l.length ∧ iv = .int .i64 0 ∧ jv = .int .i64 k ∧ Below w1.heap.size w1 wr) (fun _ jv _ => l.length - (intOf jv).toNat)
    case atStart => exact ⟨1, by omega, by omega, rfl, rfl, Below.refl _ _⟩
    case round =>
      obtain ⟨k, hk1, hk, rfl, rfl, hbr⟩ := hrel
      have hownr := (hown.below hb1).below hbr
      by_cases hlt : k < l.length
      · have q0 := (hownr.cells lineEnc_ok k 0 _ hlt rfl).1
        have q1 := (hownr.cells lineEnc_ok k 1 _ hlt rfl).1
        have q2 := (hownr.cells lineEnc_ok k 2 _ hlt rfl).1
        rw [Nat.add_zero] at q0
        have k0 : (0 : Int) ≤ (k : Int) := by omega
        have k1 : (k : Int) < (l.length : Int) := by omega
        go_wp2_with fail
        refine (hK.out l[k] _).mono ?_
        rintro e w2 ⟨rfl, hb2⟩
        rw [hHall.out _ (List.getElem_mem hlt)]
        go_wp2_with fail
        go_roundw
        case rel => exact ⟨k + 1, by omega, by omega, rfl, by go_num, bthen hbr (Nat.le_refl _) (bof_alloc hb2)⟩
        case measure => simp [intOf]; omega
      · obtain ⟨cur, hg, hcs⟩ : ∃ cur, wr.heap[g]? = some (.cells cur 35 (0, 0)) ∧ l.length * 3 ≤ cur.size := by
          rcases hownr.2 with ⟨hv, h0'⟩ | ⟨g', cap, cur, hv, _, hg, hc, _, hs, _⟩
          · cases hv
          · injection hv with e1 e2 e3
            injection e1 with e1
            injection e1 with e1
            subst e1
            exact ⟨cur, hg, by omega⟩
        obtain ⟨wc, hcl, hgc⟩ := run_clear_row (P := Tryz.prog) wr 23 35 zeroLine Tryz.underlying23 zeroLineV (by decide) g l.length vc cur hg (by omega) hcs
        have hgB : B ≤ g := (hown.block g rfl).1
        go_wp2_with fail
        go_ret
        exact ⟨_, _, rfl, ((hb1.mono hB).trans (hbr.mono (Nat.le_trans hB hb1.size))).grown hgc (Nat.le_trans hB (Nat.le_trans hb1.size hbr.size)) (fun k e => by injection e with e; omega)⟩

def eur : ByteArray := ⟨#[69, 85, 82]⟩

set_option maxRecDepth 100000 in
theorem net_none (ref : ByteArray) (ent per : Int) (l : List Line) (A : Option Addr) (n cap : Nat) (w : World) (ha : Rd w 3 lineEnc A n l) (hA : A = none → cap = 0) (he : smallE l = 0) (hz : ∀ k, tot l k = 0) :
    Calls Tryz.prog 18 #[.agg #[.string ref, .int .i64 ent, .int .i64 per, .slice A n cap]] w
      fun e w' => ∃ VA c, e = .returned (.tuple #[.agg #[.string ref, .int .i64 ent, .int .i64 per, .slice VA 0 c], .nilIface]) ∧ Below w.heap.size w w' := by
  obtain ⟨hl, hbn⟩ := smallE_ok he
  have Hn := hide ha.1
  have hn20 : n ≤ 20 := by rw [← ha.1]; exact hl
  have hcl : (canon l).length ≤ 20 := Nat.le_trans (canon_len l) hl
  have HE := hide he
  have eg : ∀ args w, (callFunc 81 args).run Tryz.prog w = .ok (.enter 81 args) w := enters_of Tryz.func81 (by kernel_rfl) rfl
  clear he
  go_enter Tryz.func18, Tryz.ntmps18
  go_wp2_with fail
  have hbx := (EntTwo.new w ref ent per (.slice A n cap) (.cells #[.string ⟨#[]⟩, .int .i64 0, .int .i64 0, .slice none 0 0] 25)).1
  have hE0 := (EntTwo.new w ref ent per (.slice A n cap) (.cells #[.string ⟨#[]⟩, .int .i64 0, .int .i64 0, .slice none 0 0] 25)).2.1
  have hf0 := (EntTwo.new w ref ent per (.slice A n cap) (.cells #[.string ⟨#[]⟩, .int .i64 0, .int .i64 0, .slice none 0 0] 25)).2.2
  have hR0 := EntTwo.res w ref ent per (.slice A n cap)
  have hg0 := EntTwo.res2 w ref ent per (.slice A n cap)
  generalize (w.alloc (.cells #[.string ref, .int .i64 ent, .int .i64 per, .slice A n cap] 25)).alloc (.cells #[.string ⟨#[]⟩, .int .i64 0, .int .i64 0, .slice none 0 0] 25) = W0 at hbx hE0 hf0 hR0 hg0 ⊢
  have hr0 : w.heap.size + 1 < W0.heap.size := World.block_lt_of_cell? _ _ hR0.1
  refine (small_ok l _ _ _ _ (by omega) (Rd.below ha hbx) HE.out).mono ?_
  rintro e w1 ⟨rfl, hb1⟩
  obtain ⟨e0, e1, e2, e3⟩ := hE0.below hb1
  have hR1 := hR0.below hb1
  have hx0 : w.heap.size < W0.heap.size := by omega
  have hxs : w.heap.size < w1.heap.size := World.block_lt_of_cell? _ _ e0
  have z3 : w1.frozen? ⟨w.heap.size, 3, none⟩ = false := ((bcell hb1).2 _ 3 hx0).trans (hf0 3)
  have zr : ∀ q, w1.frozen? ⟨w.heap.size + 1, q, none⟩ = false := fun q => ((bcell hb1).2 _ q hr0).trans (hg0 q)
  have hrs : w.heap.size + 1 < w1.heap.size := World.block_lt_of_cell? _ _ hR1.1
  have hb1 := hbx.trans (hb1.mono hbx.size)
  go_wp2_with fail
  refine (grouped_any l A n cap _ (Rd.below ha hb1) hn20 hA hbn).mono ?_
  rintro e w2 ⟨v, rfl, hown2, hb2⟩
  have hE2 := (show EntAt w1 w.heap.size ref ent per (.slice A n cap) from ⟨e0, e1, e2, e3⟩).below hb2
  have hR2 := hR1.below hb2
  have z3 := ((bcell hb2).2 _ 3 hxs).trans z3
  have zr := fun q => ((bcell hb2).2 _ q hrs).trans (zr q)
  have hb2w := bthen hb1 (Nat.le_refl _) hb2
  go_wp2_with fail
  refine (deleteAll (canon l) _ isZ asks_isZ eg w1.heap.size v _ hown2 hb2.size (canon_isZ hz) hcl).mono ?_
  rintro e w3 ⟨DA, dc, rfl, hb3⟩
  clear e0 e1 e2 e3
  obtain ⟨e0, e1, e2, e3⟩ := hE2
  have e0 := below_cell hb3 hxs e0
  have e1 := below_cell hb3 hxs e1
  have e2 := below_cell hb3 hxs e2
  have e3 := below_cell hb3 hxs e3
  obtain ⟨r0, r1, r2, r3⟩ := hR2
  have r0 := below_cell hb3 hrs r0
  have r1 := below_cell hb3 hrs r1
  have r2 := below_cell hb3 hrs r2
  have r3 := below_cell hb3 hrs r3
  have z3 := ((show w3.frozen? ⟨w.heap.size, 3, none⟩ = w2.frozen? _ from hb3.frozen (p := ⟨w.heap.size, 3, none⟩) hxs)).trans z3
  have zr := fun q => ((show w3.frozen? ⟨w.heap.size + 1, q, none⟩ = w2.frozen? _ from hb3.frozen (p := ⟨w.heap.size + 1, q, none⟩) hrs)).trans (zr q)
  have zr0 := zr 0
  have zr1 := zr 1
  have zr2 := zr 2
  have zr3 := zr 3
  clear zr
  have hb3w : Below w.heap.size w w3 := hb2w.trans (hb3.mono hb1.size)
  go_wp2_with fail
  refine bodyPost_ret (v := .tuple #[.agg #[.string ref, .int .i64 ent, .int .i64 per, .slice DA 0 dc], .nilIface]) (by simp [results, Tryz.results18, go_sem, r0, r1, r2, r3]) rfl ⟨_, _, rfl, ?_⟩
  exact ((((hb3w.setCell (Nat.le_refl _) _).setCell (Nat.le_succ _) _).setCell (Nat.le_succ _) _).setCell (Nat.le_succ _) _).setCell (Nat.le_succ _) _

set_option maxRecDepth 100000 in
theorem reverse_ok (ref ref' : ByteArray) (ent per : Int) (l : List Line) (A : Option Addr) (n cap : Nat) (w : World) (hr : ref'.size ≤ 9223372036854775807) (hrb : refB ref' = true) (ha : Rd w 3 lineEnc A n l) (hA : A = none → cap = 0) (he : smallE l = 0) :
    Calls Tryz.prog 16 #[.agg #[.string ref, .int .i64 ent, .int .i64 per, .slice A n cap], .string ref'] w
      fun e w' => ∃ VA c, e = .returned (.tuple #[.agg #[.string ref', .int .i64 ent, .int .i64 per, .slice VA l.length c], .nilIface]) ∧ Own w' w.heap.size 35 3 lineEnc (.slice VA l.length c) (l.map neg) ∧ Below w.heap.size w w' := by
  obtain ⟨hl, hbn⟩ := smallE_ok he
  have Hn := hide ha.1
  have hn20 : n ≤ 20 := by rw [← ha.1]; exact hl
  have HE := hide he
  have HR := hide hrb
  clear he hrb
  go_enter Tryz.func16, Tryz.ntmps16
  go_wp2_with fail
  have hbx := (EntTwo.new w ref ent per (.slice A n cap) (.cells #[.string ⟨#[]⟩, .int .i64 0, .int .i64 0, .slice none 0 0] 25)).1
  have hE0 := (EntTwo.new w ref ent per (.slice A n cap) (.cells #[.string ⟨#[]⟩, .int .i64 0, .int .i64 0, .slice none 0 0] 25)).2.1
  have hf0 := (EntTwo.new w ref ent per (.slice A n cap) (.cells #[.string ⟨#[]⟩, .int .i64 0, .int .i64 0, .slice none 0 0] 25)).2.2
  have hR0 := EntTwo.res w ref ent per (.slice A n cap)
  have hg0 := EntTwo.res2 w ref ent per (.slice A n cap)
  generalize (w.alloc (.cells #[.string ref, .int .i64 ent, .int .i64 per, .slice A n cap] 25)).alloc (.cells #[.string ⟨#[]⟩, .int .i64 0, .int .i64 0, .slice none 0 0] 25) = W0 at hbx hE0 hf0 hR0 hg0 ⊢
  have hr0 : w.heap.size + 1 < W0.heap.size := World.block_lt_of_cell? _ _ hR0.1
  refine (ref_any ref' _ hr).mono ?_
  rintro e w1 ⟨rfl, hb1⟩
  rw [HR.out]
  have hE1 := hE0.below hb1
  have hR1 := hR0.below hb1
  have hx0 : w.heap.size < W0.heap.size := by omega
  have hz1 : ∀ q, w1.frozen? ⟨w.heap.size, q, none⟩ = false := fun q => ((bcell hb1).2 _ q hx0).trans (hf0 q)
  have hzr : ∀ q, w1.frozen? ⟨w.heap.size + 1, q, none⟩ = false := fun q => ((bcell hb1).2 _ q hr0).trans (hg0 q)
  have hb1 := hbx.trans (hb1.mono hbx.size)
  obtain ⟨e0, e1, e2, e3⟩ := hE1
  go_wp2_with fail
  refine (small_ok l _ _ _ _ (by omega) (Rd.below ha hb1) HE.out).mono ?_
  rintro e w2 ⟨rfl, hb2⟩
  have hE2 := (show EntAt w1 w.heap.size ref ent per (.slice A n cap) from ⟨e0, e1, e2, e3⟩).below hb2
  have hR2 := hR1.below hb2
  have hx2 := World.block_lt_of_cell? _ _ hE2.1
  have hr2 := World.block_lt_of_cell? _ _ hR2.1
  have hz2 : ∀ q, w2.frozen? ⟨w.heap.size, q, none⟩ = false := fun q => ((bcell hb2).2 _ q (by have := World.block_lt_of_cell? _ _ e0; exact this)).trans (hz1 q)
  have hzr2 : ∀ q, w2.frozen? ⟨w.heap.size + 1, q, none⟩ = false := fun q => ((bcell hb2).2 _ q (World.block_lt_of_cell? _ _ hR1.1)).trans (hzr q)
  have hb2 := bthen hb1 (Nat.le_refl _) hb2
  clear e0 e1 e2 e3
  obtain ⟨e0, e1, e2, e3⟩ := hE2
  have z0 := hz2 0
  have z3 := hz2 3
  go_wp2_with fail
  have hs3 : (w2.setCell ⟨w.heap.size, 0, none⟩ (.string ref')).heap.size = w2.heap.size := by simp [World.setCell]
  have hb3 : Below w.heap.size w (w2.setCell ⟨w.heap.size, 0, none⟩ (.string ref')) := hb2.setCell (Nat.le_refl _) _
  have hE3 : EntAt (w2.setCell ⟨w.heap.size, 0, none⟩ (.string ref')) w.heap.size ref' ent per (.slice A n cap) := by
    unfold EntAt
    simp [World.cell?_setCell_other, World.cell?_setCell_same, e0, e1, e2, e3]
  have hR3 : EntAt (w2.setCell ⟨w.heap.size, 0, none⟩ (.string ref')) (w.heap.size + 1) ⟨#[]⟩ 0 0 (.slice none 0 0) := by
    obtain ⟨r0, r1, r2, r3⟩ := hR2
    unfold EntAt
    simp [World.cell?_setCell_other, r0, r1, r2, r3]
  have hz3 : ∀ q, (w2.setCell ⟨w.heap.size, 0, none⟩ (.string ref')).frozen? ⟨w.heap.size, q, none⟩ = false := fun q => by simp [hz2 q]
  have hzr3 : ∀ q, (w2.setCell ⟨w.heap.size, 0, none⟩ (.string ref')).frozen? ⟨w.heap.size + 1, q, none⟩ = false := fun q => by simp [hzr2 q]
  clear e0 e1 e2 e3 z0 z3
  generalize w2.setCell ⟨w.heap.size, 0, none⟩ (.string ref') = w3 at hs3 hb3 hE3 hR3 hz3 hzr3 ⊢
  refine (clone_lines l A n cap _ (Rd.below ha hb3) hn20 hA).mono ?_
  rintro e w4 ⟨v, rfl, hown4, hb4⟩
  have hE4 := hE3.below hb4
  have hR4 := hR3.below hb4
  have hx3 : w.heap.size < w3.heap.size := by rw [hs3]; exact hx2
  have hr3 : w.heap.size + 1 < w3.heap.size := by rw [hs3]; exact hr2
  have hz4 : ∀ q, w4.frozen? ⟨w.heap.size, q, none⟩ = false := fun q => ((bcell hb4).2 _ q hx3).trans (hz3 q)
  have hzr4 : ∀ q, w4.frozen? ⟨w.heap.size + 1, q, none⟩ = false := fun q => ((bcell hb4).2 _ q hr3).trans (hzr3 q)
  have hb4w := bthen hb3 (Nat.le_refl _) hb4
  obtain ⟨VA, vc, rfl, hvc, hvm⟩ := hown4.form
  obtain ⟨e0, e1, e2, e3⟩ := hE4
  have z3 := hz4 3
  go_wp2_with fail
  have hlow : ∀ gu, VA = some ⟨gu, 0, none⟩ → w3.heap.size ≤ gu := fun gu e => (hown4.block gu (by rw [e]; rfl)).1
  have hne4 : Value.ownBlock (.slice VA l.length vc) ≠ some w.heap.size := fun e => by have := (hown4.block _ e).1; omega
  have hset4 : w4.grownBy (w4.setCell ⟨w.heap.size, 3, none⟩ (.slice VA l.length vc)) (some w.heap.size) := only_setCell (only_refl w4 (some w.heap.size)) 3 _
  have hown5 := hown4.grown hset4 (.inr hne4)
  have hE5 : EntAt (w4.setCell ⟨w.heap.size, 3, none⟩ (.slice VA l.length vc)) w.heap.size ref' ent per (.slice VA l.length vc) := by
    unfold EntAt
    simp [World.cell?_setCell_other, World.cell?_setCell_same, e0, e1, e2, e3]
  have hR5 : EntAt (w4.setCell ⟨w.heap.size, 3, none⟩ (.slice VA l.length vc)) (w.heap.size + 1) ⟨#[]⟩ 0 0 (.slice none 0 0) := hR4.other (by omega)
  have hzr5 : ∀ q, (w4.setCell ⟨w.heap.size, 3, none⟩ (.slice VA l.length vc)).frozen? ⟨w.heap.size + 1, q, none⟩ = false := fun q => by simp [hzr4 q]
  have hb5 : Below w.heap.size w (w4.setCell ⟨w.heap.size, 3, none⟩ (.slice VA l.length vc)) := hb4w.setCell (Nat.le_refl _) _
  clear e0 e1 e2 e3 z3
  go_loopw [29] (fun iv wr => ∃ k : Nat, k ≤ l.length ∧ iv = .int .i64 k ∧ Own wr w3.heap.size 35 3 lineEnc (.slice VA l.length vc) (negTo l k) ∧ EntAt wr w.heap.size ref' ent per (.slice VA l.length vc) ∧ EntAt wr (w.heap.size + 1) ⟨#[]⟩ 0 0 (.slice none 0 0) ∧ (∀ q, wr.frozen? ⟨w.heap.size + 1, q, none⟩ = false) ∧ Below w.heap.size w wr) (fun iv _ => l.length - (intOf iv).toNat)
  case atStart => exact ⟨0, by omega, rfl, hown5, hE5, hR5, hzr5, hb5⟩
  case round =>
    obtain ⟨k, hk, rfl, hown, hE, hR, hz, hbr⟩ := hrel
    obtain ⟨e0, e1, e2, e3⟩ := hE
    by_cases hlt : k < l.length
    · obtain ⟨gu, rfl⟩ := hown.addr (by rw [negTo_len]; omega)
      have hgt := negTo_get l k hlt
      obtain ⟨c2, f2⟩ := hown.cells lineEnc_ok k 2 (.int .i64 l[k].amt) (by rw [negTo_len]; exact hlt) (by rw [hgt]; rfl)
      have hxb := hbn l[k] (List.getElem_mem _)
      have a0 := hxb.1
      have a1 := hxb.2
      have k0 : (0 : Int) ≤ (k : Int) := by omega
      have k1 : (k : Int) < (l.length : Int) := by omega
      have hgw := hlow gu rfl
      have hHown := hide hown
      have hHgt := hide hgt
      have HNs := hide (negTo_succ l k hlt)
      clear hgt hown
      go_wp2_with fail
      refine wp_region_still_tail 12 (by kernel_rfl) (by kernel_rfl) ?_
      simp only [List.take_succ_cons, List.take_zero, List.drop_succ_cons, List.drop_zero]
      change wpStill _ _ wr.drew _ _ _
      repeat still_step
      refine wpStill_nil ?_
      change wpList _ _ _ _ _ wr.drew
      go_wp2_with fail
      go_roundw
      case rel =>
        have hst := Own.store lineEnc_ok (hHown.out.below (bdrewN (Below.refl _ wr) 1)) k 2 (neg l[k]) (.int .i64 (-l[k].amt)) (by rw [negTo_len]; exact hlt) (by omega) (by have e := hHgt.out; rw [e]; rfl)
        refine ⟨k + 1, by omega, by go_num, by rw [HNs.out]; exact hst, ?_, ?_, ?_, ?_⟩
        · exact EntAt.other ⟨e0, e1, e2, e3⟩ (by omega)
        · exact EntAt.other hR (by omega)
        · intro q
          simp
          exact hz q
        · exact (bdrewN hbr 1).setCell (show w.heap.size ≤ gu by omega) _
      case measure => simp [intOf]; omega
    · have hkl : k = l.length := by omega
      subst hkl
      rw [negTo_all] at hown
      obtain ⟨r0, r1, r2, r3⟩ := hR
      have zr0 := hz 0
      have zr1 := hz 1
      have zr2 := hz 2
      have zr3 := hz 3
      go_wp2_with fail
      refine bodyPost_ret (v := .tuple #[.agg #[.string ref', .int .i64 ent, .int .i64 per, .slice VA l.length vc], .nilIface]) (by simp [results, Tryz.results16, go_sem, r0, r1, r2, r3]) rfl ⟨_, _, rfl, ?_, ?_⟩
      · have hne : ∀ q, Value.ownBlock (.slice VA l.length vc) = some q → q ≠ w.heap.size + 1 := fun q e => by have := (hown.block _ e).1; omega
        have hs : ∀ {wq : World} (o : Nat) (u : Value), Own wq w3.heap.size 35 3 lineEnc (.slice VA l.length vc) (l.map neg) → Own (wq.setCell ⟨w.heap.size + 1, o, none⟩ u) w3.heap.size 35 3 lineEnc (.slice VA l.length vc) (l.map neg) := fun {wq} o u h => h.grown (only_setCell (only_refl wq (some (w.heap.size + 1))) o u) (.inr fun e => hne _ e rfl)
        exact Own.wider (hs _ _ (hs _ _ (hs _ _ (hs _ _ hown)))) hb3.size
      · exact (((hbr.setCell (Nat.le_succ _) _).setCell (Nat.le_succ _) _).setCell (Nat.le_succ _) _).setCell (Nat.le_succ _) _
end Go.Proofs.YthmjkhlndphldaaGreatDoor

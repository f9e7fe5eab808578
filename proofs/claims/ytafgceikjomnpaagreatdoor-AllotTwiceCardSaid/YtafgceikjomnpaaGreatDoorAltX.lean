/- What the entries that give out bring. Plain Lean, no program in sight. -/
import Derived.Test.YtafgceikjomnpaaGreatDoorAloX
import Derived.Test.YtafgceikjomnpaaGreatDoorLedG
import Derived.Test.YtafgceikjomnpaaGreatDoorAloC
import Derived.Test.YtafgceikjomnpaaGreatDoorLedY
namespace Go.Proofs.YtafgceikjomnpaaGreatDoor
open Go Go.RowKit
set_option linter.unusedVariables false

def coreBals (x : Core) : List Bal := x.2.2.2.map fun y => ⟨x.2.1, y.acc, y.cur, y.amt⟩
def balsOf (cs : List Core) : List Bal := cs.flatMap coreBals
theorem balsOf_append (a b : List Core) : balsOf (a ++ b) = balsOf a ++ balsOf b := by unfold balsOf; rw [List.flatMap_append]
/-- balances of the first i entries, and of k lines of the next -/
def balsAt (cs : List Core) (i k : Nat) : List Bal := balsOf (cs.take i) ++ (match cs[i]? with | some x => (coreBals x).take k | none => [])
theorem balsAt_0 (cs : List Core) (i : Nat) : balsAt cs i 0 = balsOf (cs.take i) := by
  unfold balsAt
  cases cs[i]? <;> simp
theorem balsAt_at {cs : List Core} {i k : Nat} (hi : i < cs.length) : balsAt cs i k = balsOf (cs.take i) ++ (coreBals cs[i]).take k := by
  unfold balsAt
  rw [List.getElem?_eq_getElem hi]
theorem balsAt_end {cs : List Core} {i k : Nat} (hi : i < cs.length) (hk : (coreBals cs[i]).length ≤ k) : balsAt cs i k = balsOf (cs.take (i + 1)) := by
  rw [balsAt_at hi, List.take_of_length_le hk, List.take_succ_eq_append_getElem hi, balsOf_append]
  congr 1
  simp [balsOf]
theorem balsAt_succ {cs : List Core} {i k : Nat} (hi : i < cs.length) (hk : k < (coreBals cs[i]).length) : balsAt cs i (k + 1) = balsAt cs i k ++ [(coreBals cs[i])[k]] := by
  rw [balsAt_at hi, balsAt_at hi, List.take_succ_eq_append_getElem hk, List.append_assoc]
theorem totB_bound {S : List Bal} {m : Int} (hm : 0 ≤ m) (h : ∀ x, x ∈ S → -m ≤ x.amt ∧ x.amt ≤ m) (p : Pl) : -(S.length * m) ≤ totB S p ∧ totB S p ≤ S.length * m := by
  induction S with
  | nil => simp [totB]
  | cons x S ih =>
    obtain ⟨h1, h2⟩ := ih (fun y hy => h y (by simp [hy]))
    obtain ⟨h3, h4⟩ := h x (by simp)
    rw [totB, List.length_cons, Int.natCast_add, Int.add_mul]
    split <;> omega
/-- balances in order, none 0, none too far, not too many, are right -/
theorem balsE_of {l : List Bal} (h200 : l.length ≤ 200) (hs : SSortB l) (hn : ∀ x, x ∈ l → x.amt ≠ 0) (hm : ∀ x, x ∈ l → mayB x.amt = true) : balsE l = 0 := by
  rw [balsE, if_neg (by omega)]
  have key : ∀ k, k ≤ l.length → firstE (balE l) k = 0 := by
    intro k
    induction k with
    | zero => intro _; rfl
    | succ k ih =>
      intro hk
      rw [firstE_succ (ih (by omega))]
      have hkl : k < l.length := by omega
      have ho : ordB l k = true := by
        cases k with
        | zero => rfl
        | succ j =>
          rw [ordB_s hkl]
          exact List.pairwise_iff_getElem.1 hs j (j + 1) (by omega) hkl (by omega)
      exact balE_4 ho hkl (hm _ (List.getElem_mem hkl)) (hn _ (List.getElem_mem hkl))
  exact key _ (Nat.le_refl _)
theorem merge_right {a b : List Bal} (h : mergeE a b = 0) : balsE (netB (a ++ b)) = 0 := by
  obtain ⟨_, _, h3, h4⟩ := mergeE_0 h
  exact balsE_of (Nat.le_trans (fullB_len _) h3) (netB_sort _) (fun x hx => netB_ne hx) h4
/-- an entry whose amounts are small -/
def SmallG (x : Core) : Prop := x.2.2.2.length ≤ 20 ∧ (∀ y, y ∈ x.2.2.2 → -1000000000000000 ≤ y.amt ∧ y.amt ≤ 1000000000000000) ∧ ∀ y, y ∈ coreBals x → PlFits y.pl
theorem SmallG.bnd {x : Core} (h : SmallG x) : (coreBals x).length ≤ 20 ∧ ∀ y, y ∈ coreBals x → -1000000000000000 ≤ y.amt ∧ y.amt ≤ 1000000000000000 := by
  refine ⟨by unfold coreBals; rw [List.length_map]; exact h.1, fun y hy => ?_⟩
  unfold coreBals at hy
  obtain ⟨z, hz, rfl⟩ := List.mem_map.1 hy
  exact h.2.1 z hz
theorem smallG_of {cs : List Core} (h : ∀ x, x ∈ cs → SmallG x) : (balsOf cs).length ≤ 20 * cs.length ∧ ∀ y, y ∈ balsOf cs → (-1000000000000000 ≤ y.amt ∧ y.amt ≤ 1000000000000000) ∧ PlFits y.pl := by
  induction cs with
  | nil => exact ⟨by simp [balsOf], fun y hy => by simp [balsOf] at hy⟩
  | cons x cs ih =>
    obtain ⟨h1, h2⟩ := ih (fun y hy => h y (by simp [hy]))
    obtain ⟨h3, h4⟩ := (h x (by simp)).bnd
    have h5 := (h x (by simp)).2.2
    have e : balsOf (x :: cs) = coreBals x ++ balsOf cs := rfl
    rw [e]
    refine ⟨by rw [List.length_append, List.length_cons]; omega, fun y hy => ?_⟩
    rcases List.mem_append.1 hy with hy | hy
    · exact ⟨h4 y hy, h5 y hy⟩
    · exact h2 y hy
theorem smallG_at {cs : List Core} (h : ∀ x, x ∈ cs → SmallG x) {i k : Nat} (hi : i < cs.length) : (balsAt cs i k).length ≤ 20 * cs.length ∧ ∀ y, y ∈ balsAt cs i k → (-1000000000000000 ≤ y.amt ∧ y.amt ≤ 1000000000000000) ∧ PlFits y.pl := by
  obtain ⟨h1, h2⟩ := smallG_of (cs := cs.take i) (fun x hx => h x (List.mem_of_mem_take hx))
  obtain ⟨h3, h4⟩ := (h _ (List.getElem_mem hi)).bnd
  have h5 := (h _ (List.getElem_mem hi)).2.2
  rw [balsAt_at hi]
  rw [List.length_take] at h1
  refine ⟨by rw [List.length_append, List.length_take]; omega, fun y hy => ?_⟩
  rcases List.mem_append.1 hy with hy | hy
  · exact h2 y hy
  · exact ⟨h4 y (List.mem_of_mem_take hy), h5 y (List.mem_of_mem_take hy)⟩
/-- what is put together stays a number of 64 bits -/
theorem put_fitsG {S : List Bal} {x : Bal} (hl : S.length ≤ 1000) (h : ∀ y, y ∈ S → -1000000000000000 ≤ y.amt ∧ y.amt ≤ 1000000000000000) (hx : -1000000000000000 ≤ x.amt ∧ x.amt ≤ 1000000000000000) :
    ∀ y, y ∈ canonB S → y.pl = x.pl → -9223372036854775808 ≤ y.amt + x.amt ∧ y.amt + x.amt ≤ 9223372036854775807 := by
  intro y hy e
  have h1 := totB_mem (canonB_sort S) hy
  rw [canonB_tot] at h1
  have h2 := totB_bound (by omega) h y.pl
  have h3 : (S.length : Int) * 1000000000000000 ≤ 1000 * 1000000000000000 := Int.mul_le_mul_of_nonneg_right (by omega) (by omega)
  omega
theorem net_okG {S : List Bal} (hl : S.length ≤ 1000) (h : ∀ y, y ∈ S → -1000000000000000 ≤ y.amt ∧ y.amt ≤ 1000000000000000) (hp : ∀ y, y ∈ S → PlFits y.pl) : BalsOk (netB S) := by
  intro y hy
  have hc : y ∈ canonB S := (List.mem_filter.1 hy).1
  obtain ⟨z, hz, e⟩ := (canonB_has S y.pl).1 ⟨y, hc, rfl⟩
  have h1 := totB_mem (canonB_sort S) hc
  rw [canonB_tot] at h1
  have h2 := totB_bound (by omega) h y.pl
  have h3 : (S.length : Int) * 1000000000000000 ≤ 1000 * 1000000000000000 := Int.mul_le_mul_of_nonneg_right (by omega) (by omega)
  have h4 := hp z hz
  rw [e] at h4
  exact ⟨h4.1, h4.2.1, h4.2.2, by omega, by omega⟩

/-- what comes of weights: all together is the whole, each on the whole's side -/
theorem shared_law {T : Int} {ws out : List Int} (hw : shE ws = 0) (h : Shared T ws out) : out.length = ws.length ∧ out.sum = T ∧ (0 ≤ T → ∀ x ∈ out, 0 ≤ x) ∧ (T ≤ 0 → ∀ x ∈ out, x ≤ 0) := by
  obtain ⟨ord, hp, ho⟩ := h
  obtain ⟨_, h2, h3⟩ := shE_good hw
  exact shares_law h3 (fun x hx => (h2 x hx).1) rfl hp ho
theorem shared_bnd {T : Int} {ws out : List Int} (hw : shE ws = 0) (h : Shared T ws out) (h1 : -1000000000000000 ≤ T) (h2 : T ≤ 1000000000000000) : ∀ x ∈ out, -1000000000000000 ≤ x ∧ x ≤ 1000000000000000 := by
  obtain ⟨_, hs, hp, hn⟩ := shared_law hw h
  intro x hx
  by_cases h0 : 0 ≤ T
  · have a := hp h0
    have b := (sum_nonneg out a).2 x hx
    have c := a x hx
    omega
  · have a := hn (by omega)
    have b := (sum_nonpos out a).2 x hx
    have c := a x hx
    omega
section
variable {c : List Acc} {l : List Pol} {b : List Bal} {ent per : Int} {dg : Nat → ByteArray} {p : Pol} {ref : ByteArray} {n : Int} {out : List Int}
theorem give_small {w : World} (hp : poolE c p = 0) (hf : PolFits w p) (he : -9223372036854775808 ≤ ent ∧ ent ≤ 9223372036854775807) (h1 : inB (-1000000000000000) 1000000000000000 n = true) (hs : Shared n p.ws out) : SmallG (giveCore ent per ref p n out) := by
  obtain ⟨_, _, _, _, h19, _, hw⟩ := poolE_0 hp
  have hn : -1000000000000000 ≤ n ∧ n ≤ 1000000000000000 := by simpa [inB] using h1
  have hb := shared_bnd hw hs hn.1 hn.2
  have hl := giveTo_len p out p.to.length
  refine ⟨by show (_ :: _).length ≤ 20; rw [List.length_cons]; omega, fun y hy => ?_, fun y hy => ?_⟩
  · rcases List.mem_cons.1 hy with rfl | hy
    · show -1000000000000000 ≤ -n ∧ -n ≤ 1000000000000000
      omega
    · exact hb _ (giveTo_mem hy).2.2.1
  · unfold coreBals at hy
    obtain ⟨z, hz, rfl⟩ := List.mem_map.1 hy
    rcases List.mem_cons.1 hz with rfl | hz
    · exact ⟨he, hf.acc, hf.cur⟩
    · obtain ⟨h2, h3, _⟩ := giveTo_mem hz
      exact ⟨he, hf.tok _ h2, by show z.cur.size ≤ _; rw [h3]; exact hf.cur⟩
theorem pool_apart (hp : poolE c p = 0) : p.acc ∉ p.to := by
  obtain ⟨_, _, _, _, _, hto, _⟩ := poolE_0 hp
  intro h
  obtain ⟨i, hi, e⟩ := List.getElem_of_mem h
  have h1 := firstE_0 hto i hi
  rw [toAt_some hi] at h1
  split at h1
  · rename_i h2; exact h2 h1
  · rw [if_pos (.inl (by rw [e]))] at h1
    cases h1
theorem totB_nobody {S : List Bal} {q : Pl} (h : ∀ y, y ∈ S → y.pl ≠ q) : totB S q = 0 := by
  induction S with
  | nil => rfl
  | cons x S ih =>
    rw [totB, if_neg (h x (by simp)), ih (fun y hy => h y (by simp [hy]))]
    rfl
theorem tot_give (hp : poolE c p = 0) : totB (coreBals (giveCore ent per ref p n out)) ⟨ent, p.acc, p.cur⟩ = -n := by
  have e : coreBals (giveCore ent per ref p n out) = ⟨ent, p.acc, p.cur, -n⟩ :: (giveTo p out p.to.length).map (fun y => (⟨ent, y.acc, y.cur, y.amt⟩ : Bal)) := rfl
  rw [e, totB, if_pos (show (⟨ent, p.acc, p.cur, -n⟩ : Bal).pl = ⟨ent, p.acc, p.cur⟩ from rfl), totB_nobody]
  · show -n + 0 = -n; omega
  · intro y hy e2
    obtain ⟨z, hz, rfl⟩ := List.mem_map.1 hy
    have h1 : z.acc = p.acc := by
      have := congrArg Pl.acc e2
      exact this
    exact pool_apart hp (h1 ▸ (giveTo_mem hz).1)
/-- of one pool -/
theorem gave_one {cs : List Core} (h : GaveTo l b ent per dg 1 cs) (hl : 0 < l.length) : (cs = [] ∧ getB b ent l[0].acc l[0].cur = 0) ∨
    (getB b ent l[0].acc l[0].cur ≠ 0 ∧ inB (-1000000000000000) 1000000000000000 (getB b ent l[0].acc l[0].cur) = true ∧ ∃ out, Shared (getB b ent l[0].acc l[0].cur) l[0].ws out ∧ cs = [giveCore ent per (refL ++ dg 0) l[0] (getB b ent l[0].acc l[0].cur) out]) := by
  have hz : ∀ k cs, GaveTo l b ent per dg k cs → k = 0 → cs = [] := by
    intro k cs h hk
    cases h with
    | zero => rfl
    | skip => omega
    | give => omega
  cases h with
  | skip h' _ h0 => exact .inl ⟨hz _ _ h' rfl, h0⟩
  | give h' _ h0 h1 hs => exact .inr ⟨h0, h1, _, hs, by rw [hz _ _ h' rfl]; rfl⟩
/-- behind it the pool has nothing -/
theorem pool_empty {cs : List Core} (hl : 0 < l.length) (hp : poolE c l[0] = 0) (hb : balsE b = 0) (h : GaveTo l b ent per dg 1 cs) : getB (netB (b ++ netB (balsOf cs))) ent l[0].acc l[0].cur = 0 := by
  rw [getB_tot (netB_sort _), netB_tot, totB_append, netB_tot]
  rcases gave_one h hl with ⟨rfl, h0⟩ | ⟨_, _, out, _, rfl⟩
  · rw [getB_tot (bals_sort hb)] at h0
    rw [h0]; rfl
  · have e : balsOf [giveCore ent per (refL ++ dg 0) l[0] (getB b ent l[0].acc l[0].cur) out] = coreBals (giveCore ent per (refL ++ dg 0) l[0] (getB b ent l[0].acc l[0].cur) out) := by simp [balsOf]
    rw [e, tot_give hp, getB_tot (bals_sort hb)]
    omega
/-- a pool that has nothing gives nothing -/
theorem again_none {cs : List Core} (hl : 0 < l.length) (h0 : getB b ent l[0].acc l[0].cur = 0) (h : GaveTo l b ent per dg 1 cs) : cs = [] := by
  rcases gave_one h hl with ⟨h1, _⟩ | ⟨h1, _⟩
  · exact h1
  · exact absurd h0 h1
theorem again_ok (hl : l.length = 1) (h1 : poolsE c l = 0) (h2 : balsE b = 0) (h3 : atEL ent per = 0) (h0 : getB b ent (l[0]'(by omega)).acc (l[0]'(by omega)).cur = 0) : allotE c l b ent per = 0 := by
  rw [allotE_4 h1 h2 h3, hl]
  have hk : 0 < l.length := by omega
  have h := have_0 hk h0
  rw [firstE_succ rfl]
  exact h
theorem allotE_0 (h : allotE c l b ent per = 0) : poolsE c l = 0 ∧ balsE b = 0 ∧ atEL ent per = 0 := by
  by_cases h1 : poolsE c l = 0
  · by_cases h2 : balsE b = 0
    · by_cases h3 : atEL ent per = 0
      · exact ⟨h1, h2, h3⟩
      · rw [allotE_3 h1 h2 h3] at h; exact absurd h h3
    · rw [allotE_2 h1 h2] at h; exact absurd h h2
  · rw [allotE_1 h1] at h; exact absurd h h1
end
end Go.Proofs.YtafgceikjomnpaaGreatDoor

namespace Go.Proofs.YtafgceikjomnpaaGreatDoor
open Go Go.RowKit
set_option linter.unusedVariables false

def acct5T : List Acc := [⟨⟨#[49, 48]⟩, ⟨#[99, 97, 115, 104]⟩, 1, ⟨#[]⟩, true⟩, ⟨⟨#[50, 48]⟩, ⟨#[100, 101, 98, 116]⟩, 2, ⟨#[]⟩, true⟩, ⟨⟨#[51, 48]⟩, ⟨#[107, 101, 112, 116]⟩, 3, ⟨#[]⟩, false⟩, ⟨⟨#[52, 48]⟩, ⟨#[115, 97, 108, 101, 115]⟩, 4, ⟨#[]⟩, false⟩, ⟨⟨#[53, 48]⟩, ⟨#[99, 111, 115, 116]⟩, 5, ⟨#[]⟩, false⟩]
theorem accEnc_okT : Enc 5 Acc.enc := ⟨fun _ => rfl, by
  intro a u hu
  simp only [Acc.enc, List.mem_cons, List.not_mem_nil, or_false] at hu
  rcases hu with rfl | rfl | rfl | rfl | rfl <;> rfl⟩
theorem accountsT_any (w : World) : Calls Tryz.prog 5 #[] w fun e w' => ∃ g, e = .returned (.slice (some ⟨g, 0, none⟩) 5 5) ∧ Accs w' (some ⟨g, 0, none⟩) 5 acct5T ∧ Below w.heap.size w w' := by
  go_enter Tryz.func5, Tryz.ntmps5
  go_wp2_with fail
  go_ret
  exact ⟨_, rfl, Rd.lit w accEnc_okT acct5T 5 rfl _ _ rfl, (Below.refl _ _).alloc (Nat.le_refl _) _⟩
theorem acct5T_ok : AccOk acct5T := accOk_of (by
  intro a ha
  simp only [acct5T, List.mem_cons, List.not_mem_nil, or_false] at ha
  rcases ha with rfl | rfl | rfl | rfl | rfl <;> exact ⟨by decide, by decide⟩)
def eurT : ByteArray := ⟨#[69, 85, 82]⟩
def polT (T U : Option Addr) : Pol := ⟨⟨#[53, 48]⟩, eurT, T, 1, 1, [⟨#[49, 48]⟩], U, 1, 1, [1]⟩
def balT : List Bal := [⟨1, ⟨#[53, 48]⟩, eurT, 8⟩]
theorem factT_E (T U : Option Addr) : allotE acct5T [polT T U] balT 1 1 = 0 := by kernel_rfl
theorem factT_P (T U : Option Addr) : poolE acct5T (polT T U) = 0 := by kernel_rfl
theorem factT_G (T U : Option Addr) : getB balT 1 (polT T U).acc (polT T U).cur = 8 := by kernel_rfl
theorem factT_give (T U : Option Addr) : giveCore 1 1 (refL ++ ⟨#[]⟩) (polT T U) 8 [8] = (refL ++ ⟨#[]⟩, 1, 1, [⟨⟨#[53, 48]⟩, eurT, -8⟩, ⟨⟨#[49, 48]⟩, eurT, 8⟩]) := rfl
theorem one_sum {out : List Int} {T : Int} (h1 : out.length = 1) (h2 : out.sum = T) : out = [T] := by
  match out, h1 with
  | [x], _ =>
    have : x + 0 = T := h2
    rw [Int.add_zero] at this
    rw [this]
theorem allot_fact (CA A B T U : Option Addr) (dg : Nat → ByteArray) (w : World) (hc : Accs w CA 5 acct5T) (ha : Rd w 4 Pol.enc A 1 [polT T U]) (hf : PolFits w (polT T U)) (hb : Rd w 4 balEnc B 1 balT) (hdg : ∀ k, k < 20 → (dg k).size ≤ 21)
    (HIt : Hid (∀ k : Nat, k < 20 → ∀ W : World, Below w.heap.size w W → Calls Tryz.prog 14 #[.int .i64 k] W fun e w' => e = .returned (.string (dg k)) ∧ Below W.heap.size W w')) :
    Calls Tryz.prog 4 #[.slice CA 5 5, .slice A 1 1, .slice B 1 1, .int .i64 1, .int .i64 1] w fun e w' => (∃ (g c lb lo lc : Nat), e = .returned (.tuple #[.slice (some ⟨g, 0, none⟩) 1 c, .nilIface]) ∧ w'.cell? ⟨g, 3, none⟩ = some (.slice (some ⟨lb, lo, none⟩) 2 lc) ∧ w'.cell? ⟨lb, lo + 5, none⟩ = some (.int .i64 8)) ∧ Below w.heap.size w w' := by
  refine (allotEntries_any acct5T CA 5 5 [polT T U] A 1 1 balT B 1 1 1 1 dg w (by omega) (by omega) hc acct5T_ok (by omega) (by unfold maxLen; omega) ha (fun p hp => by obtain rfl := List.mem_singleton.1 hp; exact hf) (by omega) hb hdg HIt).mono ?_
  rintro e w' ⟨⟨h, _⟩ | ⟨_, v, es, rfl, hpk, hg⟩, hbl⟩
  · exact absurd (factT_E T U) h
  refine ⟨?_, hbl⟩
  rcases gave_one hg (by simp) with ⟨_, h0⟩ | ⟨_, _, out, hs, he⟩
  · have h0 : getB balT 1 (polT T U).acc (polT T U).cur = 0 := h0
    rw [factT_G T U] at h0
    cases h0
  · have hs : Shared (getB balT 1 (polT T U).acc (polT T U).cur) [1] out := hs
    rw [factT_G T U] at hs
    obtain ⟨h1, h2, _⟩ := shared_law (by decide) hs
    obtain rfl := one_sum h1 h2
    have he : es.map Ent.core = [giveCore 1 1 (refL ++ dg 0) (polT T U) (getB balT 1 (polT T U).acc (polT T U).cur) [8]] := he
    rw [factT_G T U] at he
    obtain ⟨E, rfl⟩ : ∃ E, es = [E] := by
      have hl : es.length = 1 := by have := congrArg List.length he; simpa using this
      exact List.length_eq_one_iff.1 hl
    have hl : E.lines = [⟨⟨#[53, 48]⟩, eurT, -8⟩, ⟨⟨#[49, 48]⟩, eurT, 8⟩] := by
      have := (List.cons.inj he).1
      exact congrArg (fun x : Core => x.2.2.2) this
    obtain ⟨r1, _, b, off, e1, _, _⟩ := hpk.all E (by simp)
    have hn : E.n = 2 := by rw [← r1.1, hl]; rfl
    rcases hpk.own.2 with ⟨_, h0⟩ | ⟨g, cap, cur, rfl, _⟩
    · cases h0
    · have c3 := (hpk.own.cells entEnc_okA 0 3 (.slice E.A E.n E.cap) (by simp) rfl).1
      obtain ⟨b2, off2, e2, hcs⟩ := r1.2 (by omega)
      have c5 := hcs 1 2 (.int .i64 8) (by rw [hl]; decide) (by simp only [hl]; rfl)
      rw [e2, hn] at c3
      exact ⟨g, cap, b2, off2, E.cap, rfl, by simpa using c3, by simpa [Nat.add_assoc] using c5⟩
end Go.Proofs.YtafgceikjomnpaaGreatDoor

namespace Go.Proofs.YtafgceikjomnpaaGreatDoor
open Go Go.RowKit
set_option linter.unusedVariables false

theorem polEnc_okT : Enc 4 Pol.enc := ⟨fun _ => rfl, by
  intro a u hu
  simp only [Pol.enc, List.mem_cons, List.not_mem_nil, or_false] at hu
  rcases hu with rfl | rfl | rfl | rfl <;> rfl⟩
/-- what the entries of one pool are -/
theorem gave_small {c : List Acc} {l : List Pol} {b : List Bal} {ent per : Int} {dg : Nat → ByteArray} {cs : List Core} {w : World} (h : GaveTo l b ent per dg 1 cs) (hl : 0 < l.length) (hp : poolE c l[0] = 0) (hf : PolFits w l[0]) (he : -9223372036854775808 ≤ ent ∧ ent ≤ 9223372036854775807) :
    cs.length ≤ 1 ∧ ∀ x, x ∈ cs → x.2.1 = ent ∧ SmallG x := by
  rcases gave_one h hl with ⟨rfl, _⟩ | ⟨_, h1, out, hs, rfl⟩
  · exact ⟨by simp, fun x hx => by cases hx⟩
  · refine ⟨by simp, fun x hx => ?_⟩
    obtain rfl := List.mem_singleton.1 hx
    exact ⟨rfl, give_small hp hf he h1 hs⟩
theorem poolsE_0p {c : List Acc} {l : List Pol} (h : poolsE c l = 0) (hl : 0 < l.length) : poolE c l[0] = 0 := (poolsE_0 h).2.2 0 hl

theorem polT_fits {w : World} {T U : Option Addr} (r1 : Rd w 1 strEnc T 1 [⟨#[49, 48]⟩]) (r2 : Rd w 1 intEnc2 U 1 [1]) : PolFits w (polT T U) := by
  refine ⟨?_, ?_, Nat.le_refl 1, ?_, r1, ?_, Nat.le_refl 1, ?_, r2, ?_⟩
  · show (⟨#[53, 48]⟩ : ByteArray).size ≤ _; decide
  · show (⟨#[69, 85, 82]⟩ : ByteArray).size ≤ _; decide
  · show (1 : Nat) ≤ maxLen; unfold maxLen; omega
  · intro s hs
    obtain rfl := List.mem_singleton.1 hs
    decide
  · show (1 : Nat) ≤ maxLen; unfold maxLen; omega
  · intro y hy
    obtain rfl := List.mem_singleton.1 hy
    omega

set_option maxHeartbeats 4000000 in
set_option maxRecDepth 100000 in
theorem allotTwice_any (c : List Acc) (CA : Option Addr) (cn ccap : Nat) (l : List Pol) (A : Option Addr) (n cap : Nat) (b : List Bal) (BA : Option Addr) (bn bcap : Nat) (ent : Int) (dg : Nat → ByteArray) (w : World)
    (hcc : cn ≤ ccap) (hcm : ccap ≤ maxLen) (hc : Accs w CA cn c) (hcok : AccOk c) (hl : n ≤ cap) (hcap : cap ≤ maxLen) (ha : Rd w 4 Pol.enc A n l) (hok : ∀ p ∈ l, PolFits w p) (hbc : bn ≤ bcap) (hbm : bcap ≤ maxLen) (hb : Rd w 4 balEnc BA bn b) (hbok : BalsOk b) (hbN : BA = none → bcap = 0) (hent : -9223372036854775808 ≤ ent ∧ ent ≤ 9223372036854775807) (hdg : ∀ k, k < 20 → (dg k).size ≤ 21)
    (HIt : Hid (∀ k : Nat, k < 20 → ∀ W : World, Below w.heap.size w W → Calls Tryz.prog 14 #[.int .i64 k] W fun e w' => e = .returned (.string (dg k)) ∧ Below W.heap.size W w')) :
    Calls Tryz.prog 3 #[.slice CA cn ccap, .slice A n cap, .slice BA bn bcap, .int .i64 ent] w fun e w' => e = .returned (.bool true) ∧ Below w.heap.size w w' := by
  have hcl : cn ≤ 9223372036854775807 := by unfold maxLen at hcm; omega
  have hbl : bn ≤ 9223372036854775807 := by unfold maxLen at hbm; omega
  have hn63 : n ≤ 9223372036854775807 := by unfold maxLen at hcap; omega
  have Hn := hide ha.1
  have Hbok := hide hbok
  have HbN := hide hbN
  have HENT := hide hent
  have HFA : Hid (∀ (CA A B T U : Option Addr) (W : World), Below w.heap.size w W → Accs W CA 5 acct5T → Rd W 4 Pol.enc A 1 [polT T U] → PolFits W (polT T U) → Rd W 4 balEnc B 1 balT → Calls Tryz.prog 4 #[.slice CA 5 5, .slice A 1 1, .slice B 1 1, .int .i64 1, .int .i64 1] W fun e w' => (∃ (g c lb lo lc : Nat), e = .returned (.tuple #[.slice (some ⟨g, 0, none⟩) 1 c, .nilIface]) ∧ w'.cell? ⟨g, 3, none⟩ = some (.slice (some ⟨lb, lo, none⟩) 2 lc) ∧ w'.cell? ⟨lb, lo + 5, none⟩ = some (.int .i64 8)) ∧ Below W.heap.size W w') :=
    fun CA A B T U W hW h1 h2 h3 h4 => allot_fact CA A B T U dg W h1 h2 h3 h4 hdg (fun k hk W' h' => HIt.out k hk W' (bthen hW (Nat.le_refl _) h'))
  have HP6 : Hid (∀ (L : List Pol) (LA : Option Addr) (x : List Bal) (XA : Option Addr) (xn xc : Nat) (W : World), Below w.heap.size w W → Rd W 4 Pol.enc LA 1 L → (∀ p ∈ L, PolFits W p) → 1 ≤ cap → xn ≤ 9223372036854775807 → Rd W 4 balEnc XA xn x → Calls Tryz.prog 4 #[.slice CA cn ccap, .slice LA 1 cap, .slice XA xn xc, .int .i64 ent, .int .i64 2] W fun e w' =>
      ((allotE c L x ent 2 ≠ 0 ∧ e = .returned (.tuple #[.slice none 0 0, errV (allotE c L x ent 2)])) ∨
        (allotE c L x ent 2 = 0 ∧ ∃ v es, e = .returned (.tuple #[v, .nilIface]) ∧ Pack w' W.heap.size v es ∧ GaveTo L x ent 2 dg 1 (es.map Ent.core))) ∧ Below W.heap.size W w') :=
    fun L LA x XA xn xc W hW h1 h2 h3 h4 h5 => allotEntries_any c CA cn ccap L LA 1 cap x XA xn xc ent 2 dg W hcl hcc (hc.below hW) hcok h3 hcap h1 h2 h4 h5 hdg (fun k hk W' h' => HIt.out k hk W' (bthen hW (Nat.le_refl _) h'))
  clear hcl hcc hcm hc hcok hbok hbN hdg HIt hent
  go_enter Tryz.func3, Tryz.ntmps3
  go_upto_region 2 with fail
  have r1 : Rd (w.alloc (.cells #[.string ⟨#[49, 48]⟩] 9)) 1 strEnc (some ⟨w.heap.size, 0, none⟩) 1 [⟨#[49, 48]⟩] := Rd.lit w strEnc_ok [⟨#[49, 48]⟩] 1 rfl _ _ rfl
  have s1 : (w.alloc (.cells #[.string ⟨#[49, 48]⟩] 9)).heap.size = w.heap.size + 1 := by simp
  have r2 : Rd ((w.alloc (.cells #[.string ⟨#[49, 48]⟩] 9)).alloc (.cells #[.int .i64 1] 3)) 1 intEnc2 (some ⟨w.heap.size + 1, 0, none⟩) 1 [1] := by
    rw [← s1]; exact Rd.lit _ intEnc2_ok [1] 1 rfl _ _ rfl
  have s2 : ((w.alloc (.cells #[.string ⟨#[49, 48]⟩] 9)).alloc (.cells #[.int .i64 1] 3)).heap.size = w.heap.size + 2 := by simp
  have r1 := r1.below ((Below.refl _ _).alloc (Nat.le_refl _) (.cells #[.int .i64 1] 3))
  have b2 : Below w.heap.size w ((w.alloc (.cells #[.string ⟨#[49, 48]⟩] 9)).alloc (.cells #[.int .i64 1] 3)) := ((Below.refl _ _).alloc (Nat.le_refl _) _).alloc (by simp) _
  generalize ((w.alloc (.cells #[.string ⟨#[49, 48]⟩] 9)).alloc (.cells #[.int .i64 1] 3)) = W2 at r1 r2 s2 b2 ⊢
  have r3 : Rd (W2.alloc (.cells #[.string ⟨#[53, 48]⟩, .string ⟨#[69, 85, 82]⟩, .slice (some ⟨w.heap.size, 0, none⟩) 1 1, .slice (some ⟨w.heap.size + 1, 0, none⟩) 1 1] 28)) 4 Pol.enc (some ⟨w.heap.size + 1 + 1, 0, none⟩) 1 [polT (some ⟨w.heap.size, 0, none⟩) (some ⟨w.heap.size + 1, 0, none⟩)] := by
    rw [show w.heap.size + 1 + 1 = W2.heap.size by omega]; exact Rd.lit W2 polEnc_okT _ 1 rfl _ _ rfl
  have b3 : Below W2.heap.size W2 (W2.alloc (.cells #[.string ⟨#[53, 48]⟩, .string ⟨#[69, 85, 82]⟩, .slice (some ⟨w.heap.size, 0, none⟩) 1 1, .slice (some ⟨w.heap.size + 1, 0, none⟩) 1 1] 28)) := (Below.refl _ _).alloc (Nat.le_refl _) _
  have f3 := polT_fits r1 r2
  have f3 := f3.below b3
  have b3 := bthen b2 (Nat.le_refl _) b3
  clear r1 r2 b2 s1
  generalize (W2.alloc (.cells #[.string ⟨#[53, 48]⟩, .string ⟨#[69, 85, 82]⟩, .slice (some ⟨w.heap.size, 0, none⟩) 1 1, .slice (some ⟨w.heap.size + 1, 0, none⟩) 1 1] 28)) = W3 at r3 f3 b3 ⊢
  go_wp2_with fail
  refine (accountsT_any _).mono ?_
  rintro e w1 ⟨g1, rfl, hA1, hb1⟩
  have r4 := r3.below hb1
  have f4 := f3.below hb1
  have b4 := bthen b3 (Nat.le_refl _) hb1
  have hR : Rd (w1.alloc (.cells #[.int .i64 1, .string ⟨#[53, 48]⟩, .string ⟨#[69, 85, 82]⟩, .int .i64 8] 36)) 4 balEnc (some ⟨w1.heap.size, 0, none⟩) 1 balT := Rd.lit w1 balEnc_ok balT 1 rfl _ _ rfl
  have b5 : Below w1.heap.size w1 (w1.alloc (.cells #[.int .i64 1, .string ⟨#[53, 48]⟩, .string ⟨#[69, 85, 82]⟩, .int .i64 8] 36)) := (Below.refl _ _).alloc (Nat.le_refl _) _
  have hA5 : Accs (w1.alloc (.cells #[.int .i64 1, .string ⟨#[53, 48]⟩, .string ⟨#[69, 85, 82]⟩, .int .i64 8] 36)) (some ⟨g1, 0, none⟩) 5 acct5T := hA1.below b5
  have r5 := r4.below b5
  have f5 := f4.below b5
  have b5 := bthen b4 (Nat.le_refl _) b5
  clear r3 f3 b3 hb1 r4 f4 b4 hA1
  go_wp2_with fail
  refine (HFA.out _ _ _ _ _ _ b5 hA5 r5 f5 hR).mono ?_
  rintro e w2 ⟨⟨g, gc, lb, lo, lc, rfl, c3, c8⟩, hb2⟩
  have hb2 := bthen b5 (Nat.le_refl _) hb2
  have c8' : w2.cell? ⟨lb, lo + 3 + 2, none⟩ = some (.int .i64 8) := by simpa [Nat.add_assoc] using c8
  clear hR hA5 r5 f5 b5 HFA c8
  by_cases h0 : n = 0
  · have h0b : ((n : Int) == 0) = true := by rw [beq_iff_eq]; omega
    clear h0
    go_wp2_with fail
    go_ret
    exact ⟨rfl, hb2⟩
  have h0b : ((n : Int) == 0) = false := by rw [beq_eq_false_iff_ne]; omega
  have hcap1 : (1 : Int) ≤ (cap : Int) := by omega
  have hcap1' : 1 ≤ cap := by omega
  have hn1 : 1 ≤ n := by omega
  obtain ⟨pb, po, rfl, _⟩ := ha.2 (by omega)
  have hL1 : (l.take 1).length = 1 := by rw [List.length_take]; have := Hn.out; omega
  have hL0 : 0 < (l.take 1).length := by omega
  have HL1 := hide hL1
  have HR1 : Hid (Rd w 4 Pol.enc (some ⟨pb, po, none⟩) 1 (l.take 1)) := ha.takeQ hn1
  have HF1 : Hid (∀ p ∈ l.take 1, PolFits w p) := fun p hp => hok p (List.mem_of_mem_take hp)
  clear h0 hok ha hL1 hn1
  go_wp2_with fail
  refine (HP6.out (l.take 1) (some ⟨pb, po, none⟩) b BA bn bcap _ hb2 (HR1.out.below hb2) (fun p hp => (HF1.out p hp).below hb2) hcap1' hbl (hb.below hb2)).mono ?_
  rintro e w3 ⟨⟨hE0, rfl⟩ | ⟨hE0, v3, es, rfl, hp3, hg3⟩, hb3⟩
  · have hb3 := bthen hb2 (Nat.le_refl _) hb3
    rw [errV_n hE0]
    clear hE0
    go_wp2_with fail
    go_ret
    exact ⟨rfl, hb3⟩
  have hb3 := bthen hb2 (Nat.le_refl _) hb3
  obtain ⟨hP0, hB0, hAT0⟩ := allotE_0 hE0
  have hpool := poolsE_0p hP0 hL0
  obtain ⟨hc1, hsm⟩ := gave_small hg3 hL0 hpool (HF1.out _ (List.getElem_mem hL0)) HENT.out
  have HP0 := hide hP0
  have HB0 := hide hB0
  have HAT0 := hide hAT0
  have HPOOL := hide hpool
  have HG3 := hide hg3
  obtain ⟨cs, hcs⟩ : ∃ cs, cs = es.map Ent.core := ⟨_, rfl⟩
  rw [← hcs] at hc1 hsm
  have hcsl : cs.length = es.length := by rw [hcs, List.length_map]
  have HCS := hide hcs
  have HSM := hide hsm
  have HSM2 : Hid (∀ x, x ∈ cs → SmallG x) := fun x hx => (HSM.out x hx).2
  clear hP0 hB0 hAT0 hpool hg3 hcs hsm hE0
  obtain ⟨VA, vc, rfl, hvc, hvm⟩ := hp3.own.form
  have hrd3 := hp3.own.rd entEnc_okA
  have HALL : Hid (∀ e, e ∈ es → Rd w3 3 lineEnc e.A e.n e.lines ∧ e.n ≤ 20) := fun e he => ⟨(hp3.all e he).1, (hp3.all e he).2.1⟩
  have hm63 : es.length ≤ 1 := by omega
  clear hp3 c3 c8' hvc hvm
  go_wp2_with fail
  go_loopw [14, 15] (fun ov iv wr => ∃ i : Nat, i ≤ es.length ∧ iv = .int .i64 i ∧ Own wr w3.heap.size 36 4 balEnc ov (canonB (balsOf (cs.take i))) ∧ Below w3.heap.size w3 wr) (fun _ iv _ => es.length - (intOf iv).toNat)
  case atStart => exact ⟨0, by omega, rfl, Own.nil _ _ _ _ _, Below.refl _ _⟩
  case round =>
    obtain ⟨i, hi, rfl, hown, hbr⟩ := hrel
    by_cases hlt : i < es.length
    · have hic : i < cs.length := by omega
      rw [← balsAt_0] at hown
      have i0 : (0 : Int) ≤ (i : Int) := by omega
      have i1 : (i : Int) < (es.length : Int) := by omega
      obtain ⟨hx1, hx2⟩ := HALL.out _ (List.getElem_mem hlt)
      have hcore : cs[i] = Ent.core es[i] := by simp [HCS.out]
      have hent : es[i].ent = ent := by have := (HSM.out _ (List.getElem_mem hic)).1; rw [hcore] at this; exact this
      have hln : es[i].lines.length = es[i].n := hx1.1
      have hcl2 : (coreBals cs[i]).length = es[i].n := by rw [hcore]; show (es[i].lines.map _).length = _; rw [List.length_map, hln]
      have HCL := hide hcl2
      have HCORE := hide hcore
      have HEQ := hide hent
      clear hcore hcl2 hent
      obtain ⟨eb, eo, rfl, hecs⟩ := (hrd3.below (Below.refl _ _)).2 (by omega)
      have e3 := hecs i 3 _ hlt rfl
      clear hecs
      have hes3 : eb < w3.heap.size := World.block_lt_of_cell? _ _ e3
      go_wp2_with fail
      go_loopw [14, 16] (fun ov kv wi => ∃ k : Nat, k ≤ es[i].n ∧ kv = .int .i64 k ∧ Own wi w3.heap.size 36 4 balEnc ov (canonB (balsAt cs i k)) ∧ Below w3.heap.size w3 wi) (fun _ kv _ => es[i].n - (intOf kv).toNat)
      case atStart => exact ⟨0, by omega, rfl, hown, hbr⟩
      case round =>
        clear hown hbr
        obtain ⟨k, hk, rfl, hown, hbi⟩ := hrel
        have z3 := below_cell hbi hes3 e3
        have hsw := hbi.size
        by_cases hkn : k < es[i].n
        · have hkl : k < es[i].lines.length := by omega
          obtain ⟨lb2, lo2, hA3, hlcs⟩ := (hx1.below hbi).2 (by omega)
          rw [hA3] at z3
          have y0 := hlcs k 0 _ hkl rfl
          have y1 := hlcs k 1 _ hkl rfl
          have y2 := hlcs k 2 _ hkl rfl
          rw [Nat.add_zero] at y0
          clear hlcs
          have k0 : (0 : Int) ≤ (k : Int) := by omega
          have k1 : (k : Int) < (es[i].n : Int) := by omega
          have HS := hide (balsAt_succ hic (show k < (coreBals cs[i]).length by have := HCL.out; omega))
          have HG : Hid ((coreBals cs[i])[k]'(by have := HCL.out; omega) = ⟨ent, es[i].lines[k].acc, es[i].lines[k].cur, es[i].lines[k].amt⟩) := by
            show _ = _
            have : coreBals cs[i] = es[i].lines.map fun y => ⟨es[i].ent, y.acc, y.cur, y.amt⟩ := by rw [HCORE.out]; rfl
            simp only [this, List.getElem_map, HEQ.out]
          obtain ⟨hbn1, hbn2⟩ := smallG_at (k := k) HSM2.out hic
          have hxb := (HSM2.out _ (List.getElem_mem hic)).bnd.2 _ (List.getElem_mem (show k < (coreBals cs[i]).length by have := HCL.out; omega))
          rw [HG.out] at hxb
          obtain ⟨y, hy⟩ : ∃ y : Line, y = es[i].lines[k] := ⟨_, rfl⟩
          rw [← hy] at hxb HG y0 y1 y2
          obtain ⟨x, hx⟩ : ∃ x : Bal, x = ⟨ent, y.acc, y.cur, y.amt⟩ := ⟨_, rfl⟩
          rw [← hx] at hxb HG
          have hft := put_fitsG (by omega) (fun y hy => (hbn2 y hy).1) hxb
          have hlc1 := canonB_len (balsAt cs i k)
          obtain ⟨UA, uc, rfl, huc, hum⟩ := hown.form
          have hrdo := hown.rd balEnc_ok
          have hUA := hown.addrOr
          have HX := hide hx
          have HFT := hide hft
          clear hx hxb hbn2 hy hft
          have x0 : (wr.alloc (.cells #[.string y.acc, .string y.cur, .int .i64 y.amt] 38)).cell? ⟨wr.heap.size, 0, none⟩ = some (.string y.acc) := by simp
          have x1 : (wr.alloc (.cells #[.string y.acc, .string y.cur, .int .i64 y.amt] 38)).cell? ⟨wr.heap.size, 1, none⟩ = some (.string y.cur) := by simp
          have x2 : (wr.alloc (.cells #[.string y.acc, .string y.cur, .int .i64 y.amt] 38)).cell? ⟨wr.heap.size, 2, none⟩ = some (.int .i64 y.amt) := by simp
          have hbx : Below wr.heap.size wr (wr.alloc (.cells #[.string y.acc, .string y.cur, .int .i64 y.amt] 38)) := (Below.refl _ _).alloc (Nat.le_refl _) _
          go_upto_region 18 with fail
          generalize wr.alloc (.cells #[.string y.acc, .string y.cur, .int .i64 y.amt] 38) = W1 at x0 x1 x2 hbx ⊢
          have hrdW := hrdo.below hbx
          have hP := refPut_any (canonB (balsAt cs i k)) x _ _ _ _ (by omega) huc hum hrdW hUA HFT.out
          rw [HX.out] at hP
          have HPC := hide hP
          clear hP
          go_wp2_with fail
          refine HPC.out.mono ?_
          rintro e w5 ⟨v5, rfl, hown5, hb5⟩
          have hb5 : Below wr.heap.size wr w5 := hbx.trans (hb5.mono hbx.size)
          have hws := hbx.size
          go_wp2_with fail
          go_roundw
          case rel => exact ⟨k + 1, by omega, by go_num, by rw [HS.out, canonB_snoc, HG.out, HX.out]; exact Own.wider hown5 (by show w3.heap.size ≤ W1.heap.size; omega), hbi.trans (hb5.mono hbi.size)⟩
          case measure => simp [intOf]; omega
        · have HF := hide (balsAt_end (cs := cs) (i := i) (k := k) hic (by have := HCL.out; omega))
          rw [HF.out] at hown
          go_wp2_with fail
          go_roundw
          case rel => exact ⟨i + 1, by omega, by go_num, hown, hbi⟩
          case measure => simp [intOf]; omega
    · have hie : i = cs.length := by omega
      have HL := hide (show cs.take i = cs by rw [hie]; exact List.take_length)
      rw [HL.out] at hown
      have hbd := smallG_of HSM2.out
      have hnok := net_okG (by omega) (fun y hy => (hbd.2 y hy).1) (fun y hy => (hbd.2 y hy).2)
      have hlc1 := canonB_len (balsOf cs)
      obtain ⟨UA, uc, rfl, huc, hum⟩ := hown.form
      have hrdo := hown.rd balEnc_ok
      have hbr2 := hb3.trans (hbr.mono hb3.size)
      have HNOK := hide hnok
      have hn40 : (canonB (balsOf cs)).length ≤ 40 := by have := hbd.1; omega
      clear hnok hbd hie HL hown
      go_wp2_with fail
      refine (refFull_any (canonB (balsOf cs)) _ _ _ _ (by omega) hrdo).mono ?_
      rintro e w5 ⟨v5, rfl, hown5, hb5⟩
      have hb5 := bthen hbr2 (Nat.le_refl _) hb5
      have hnl : (fullB (canonB (balsOf cs))).length ≤ 100 := by have := fullB_len (canonB (balsOf cs)); omega
      have HNB : Hid (fullB (canonB (balsOf cs)) = netB (balsOf cs)) := rfl
      rw [HNB.out] at hown5 hnl
      obtain ⟨NA, nc, rfl, hnc, hnm⟩ := hown5.form
      have hrd5 := hown5.rd balEnc_ok
      go_wp2_with fail
      refine (merge_any b (netB (balsOf cs)) _ _ _ _ _ _ _ hbl (hb.below hb5) (by omega) hrd5 HbN.out (fun e => by subst e; exact hown5.nilCap) Hbok.out HNOK.out).mono ?_
      rintro e w6 ⟨v6, rfl, hown6, hb6⟩
      have hb6 := bthen hb5 (Nat.le_refl _) hb6
      by_cases hme : mergeE b (netB (balsOf cs)) = 0
      · have HME := hide hme
        rw [if_pos HME.out] at hown6
        rw [errV_0 HME.out]
        clear hme hown5 hrd5
        have hnl6 : (netB (b ++ netB (balsOf cs))).length ≤ 200 := Nat.le_trans (fullB_len _) (mergeE_0 HME.out).2.2.1
        have HBN := hide (merge_right HME.out)
        have HZ : Hid (getB (netB (b ++ netB (balsOf cs))) ent (l.take 1)[0].acc (l.take 1)[0].cur = 0) := by
          show _ = _
          rw [HCS.out]
          exact pool_empty hL0 HPOOL.out HB0.out HG3.out
        generalize netB (b ++ netB (balsOf cs)) = now at hown6 hnl6 HBN HZ ⊢
        obtain ⟨MA, mc, rfl, hmc, hmm⟩ := hown6.form
        have hrd6 := hown6.rd balEnc_ok
        have HAG : Hid (allotE c (l.take 1) now ent 2 = 0) := again_ok HL1.out HP0.out HBN.out HAT0.out HZ.out
        go_wp2_with fail
        refine (HP6.out (l.take 1) (some ⟨pb, po, none⟩) now MA now.length mc _ hb6 (HR1.out.below hb6) (fun p hp => (HF1.out p hp).below hb6) hcap1' (by omega) hrd6).mono ?_
        rintro e w7 ⟨⟨h7, _⟩ | ⟨_, v7, es7, rfl, hp7, hg7⟩, hb7⟩
        · exact absurd HAG.out h7
        have hb7 := bthen hb6 (Nat.le_refl _) hb7
        have h70 := again_none hL0 HZ.out hg7
        obtain rfl : es7 = [] := List.map_eq_nil_iff.1 h70
        obtain ⟨TA, tc, rfl, htc, htm⟩ := hp7.own.form
        clear hp7 hg7 h70
        go_wp2_with fail
        go_ret
        exact ⟨rfl, hb7⟩
      · have hne := errV_n hme
        rw [hne]
        clear hme hne hown6
        go_wp2_with fail
        go_ret
        exact ⟨rfl, hb6⟩
end Go.Proofs.YtafgceikjomnpaaGreatDoor

/- chart.account and chart.Check: what each returns. -/
import Derived.Test.YtggmbjdonlbfkaaGreatDoorBesafterAcc
namespace Go.Proofs.YtggmbjdonlbfkaaGreatDoorBesafter
open Go Go.RowKit
set_option linter.unusedVariables false

/-- Each text and number of accounts fits. -/
def AccOk (l : List Acc) : Prop := ∀ (i : Nat) (h : i < l.length), l[i].code.size ≤ 9223372036854775807 ∧ l[i].name.size ≤ 9223372036854775807

def nameB (s : ByteArray) : Bool := !s.toList.isEmpty && decide ((s.size : Int) ≤ 24) && allIn s nameSet

/-- Does account a stand behind the last of f? -/
def ordOk (f : List Acc) (a : Acc) : Bool := match f.getLast? with | some p => Op.bytesLess p.code.toList a.code.toList | none => true
/-- What is wrong with account a behind the accounts f. -/
def accF (f : List Acc) (a : Acc) : Int :=
  if digitsB a.code 6 = false then 2 else
  if nameB a.name = false then 2 else
  if a.kind < 1 then 1 else
  if 5 < a.kind then 1 else
  if ordOk f a = false then 5 else
  if a.parent.toList.isEmpty = true then 0 else
  match idxO f a.parent with
  | none => 6
  | some k => if (f[k]?.map (·.kind)) = some a.kind then 0 else 12
def accE (l : List Acc) (i : Nat) : Int := match l[i]? with | some a => accF (l.take i) a | none => 0

theorem accE_at {l : List Acc} {i : Nat} (h : i < l.length) : accE l i = accF (l.take i) l[i] := by simp [accE, h]

theorem idxO_lt {l : List Acc} {c : ByteArray} {k : Nat} (h : idxO l c = some k) : k < l.length := by
  unfold idxO at h
  exact (List.findIdx?_eq_some_iff_getElem.1 h).1

theorem take_last {l : List Acc} {i : Nat} (h0 : 0 < i) (h : i < l.length) : (l.take i).getLast? = some (l[i-1]'(by omega)) := by
  rw [List.getLast?_eq_getElem?, List.getElem?_take, List.length_take]
  rw [if_pos (by omega), show min i l.length - 1 = i - 1 from by omega, List.getElem?_eq_getElem]

theorem account_any (l : List Acc) (A : Option Addr) (n cap i : Nat) (w : World) (hl : n ≤ 9223372036854775807) (hcap : n ≤ cap) (ha : Accs w A n l) (hok : AccOk l) (hil : i < l.length) :
    Calls Tryz.prog 23 #[.slice A n cap, .int .i64 i] w fun e w' => e = .returned (errV (accE l i)) ∧ Below w.heap.size w w' := by
  obtain ⟨hs1, hs2⟩ := hok i hil
  rw [accE_at hil]
  unfold accF
  cases h1 : digitsB l[i].code 6 with
  | false => exact acc_c1 l A n cap i w hl hcap ha hil hs1 hs2 h1
  | true =>
    rw [if_neg (by simp)]
    cases h2 : l[i].name.toList.isEmpty with
    | true =>
      rw [if_pos (by simp [nameB, h2])]
      exact acc_c2 l A n cap i w hl hcap ha hil hs1 hs2 h1 h2
    | false =>
      by_cases h3 : (l[i].name.size : Int) ≤ 24
      · cases h4 : allIn l[i].name nameSet with
        | false =>
          rw [if_pos (by simp [nameB, h4])]
          exact acc_c4 l A n cap i w hl hcap ha hil hs1 hs2 h1 h2 h3 (hide h4)
        | true =>
          rw [if_neg (by simp [nameB, h2, h3, h4])]
          by_cases h5 : l[i].kind < 1
          · rw [if_pos h5]
            exact acc_c5 l A n cap i w hl hcap ha hil hs1 hs2 h1 h2 h3 (hide h4) h5
          · rw [if_neg h5]
            by_cases h6 : 5 < l[i].kind
            · rw [if_pos h6]
              exact acc_c6 l A n cap i w hl hcap ha hil hs1 hs2 h1 h2 h3 (hide h4) (by omega) h6
            · rw [if_neg h6]
              by_cases hi0 : 0 < i
              · have ho : ordOk (l.take i) l[i] = Op.bytesLess (l[i-1]'(by omega)).code.toList l[i].code.toList := by unfold ordOk; rw [take_last hi0 hil]
                rw [ho]
                cases h7 : Op.bytesLess (l[i-1]'(by omega)).code.toList l[i].code.toList with
                | false =>
                  rw [if_pos rfl]
                  exact acc_c7 l A n cap i w hl hcap ha hil hs1 hs2 h1 h2 h3 (hide h4) (by omega) (by omega) hi0 h7
                | true =>
                  rw [if_neg (by simp)]
                  cases h8 : l[i].parent.toList.isEmpty with
                  | true =>
                    rw [if_pos rfl]
                    exact acc_c8p l A n cap i w hl hcap ha hil hs1 hs2 h1 h2 h3 (hide h4) (by omega) (by omega) hi0 h7 h8
                  | false =>
                    rw [if_neg (by simp)]
                    cases h9 : idxO (l.take i) l[i].parent with
                    | none => exact acc_c9p l A n cap i w hl hcap ha hil hs1 hs2 h1 h2 h3 (hide h4) (by omega) (by omega) hi0 h7 h8 (by simp [idxI, h9])
                    | some k =>
                      have hk := idxO_lt h9
                      rw [List.length_take] at hk
                      have hki : k < i := by omega
                      have hkk : (l.take i)[k]? = some (l[k]'(by omega)) := by rw [List.getElem?_take, if_pos hki, List.getElem?_eq_getElem]
                      simp only [hkk, Option.map_some, Option.some.injEq]
                      by_cases h10 : (l[k]'(by omega)).kind = l[i].kind
                      · rw [if_pos h10]
                        exact acc_c11p l A n cap i w hl hcap ha hil hs1 hs2 h1 h2 h3 (hide h4) (by omega) (by omega) hi0 h7 k hki h8 (hide (by simp [idxI, h9])) h10
                      · rw [if_neg h10]
                        exact acc_c10p l A n cap i w hl hcap ha hil hs1 hs2 h1 h2 h3 (hide h4) (by omega) (by omega) hi0 h7 k hki h8 (hide (by simp [idxI, h9])) h10
              · have hz : decide (0 < i) = false := by simpa using hi0
                have hi : i = 0 := by omega
                have ho : ordOk (l.take i) l[i] = true := by unfold ordOk; rw [show (l.take i).getLast? = none from by rw [hi]; rfl]
                rw [ho, if_neg (by simp)]
                cases h8 : l[i].parent.toList.isEmpty with
                | true =>
                  rw [if_pos rfl]
                  exact acc_c8z l A n cap i w hl hcap ha hil hs1 hs2 h1 h2 h3 (hide h4) (by omega) (by omega) hz h8
                | false =>
                  rw [if_neg (by simp)]
                  cases h9 : idxO (l.take i) l[i].parent with
                  | none => exact acc_c9z l A n cap i w hl hcap ha hil hs1 hs2 h1 h2 h3 (hide h4) (by omega) (by omega) hz h8 (by simp [idxI, h9])
                  | some k =>
                    have hk := idxO_lt h9
                    rw [List.length_take] at hk
                    omega
      · rw [if_pos (by simp [nameB, h3])]
        exact acc_c3 l A n cap i w hl hcap ha hil hs1 hs2 h1 h2 (by omega)

/-- no account ahead of k is wrong -/
def OkTo (l : List Acc) (k : Nat) : Prop := ∀ j, j < k → accE l j = 0
/-- What is wrong with the accounts from i on, n of them. -/
def scanE (l : List Acc) : Nat → Nat → Int
  | _, 0 => 0
  | i, n + 1 => if accE l i = 0 then scanE l (i + 1) n else accE l i
def chartE (l : List Acc) : Int := if 60 < l.length then 4 else scanE l 0 l.length

theorem scanE_hit {l : List Acc} {k : Nat} (h : OkTo l k) (he : accE l k ≠ 0) : ∀ n i, i ≤ k → k < i + n → scanE l i n = accE l k := by
  intro n
  induction n with
  | zero => intro i h1 h2; omega
  | succ n ih =>
    intro i h1 h2
    unfold scanE
    by_cases e : i = k
    · subst e; rw [if_neg he]
    · rw [if_pos (h i (by omega))]
      exact ih (i + 1) (by omega) (by omega)
theorem scanE_none {l : List Acc} {m : Nat} (h : OkTo l m) : ∀ n i, i + n ≤ m → scanE l i n = 0 := by
  intro n
  induction n with
  | zero => intro i _; rfl
  | succ n ih =>
    intro i h1
    unfold scanE
    rw [if_pos (h i (by omega))]
    exact ih (i + 1) (by omega)
end Go.Proofs.YtggmbjdonlbfkaaGreatDoorBesafter

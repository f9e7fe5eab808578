/- daylaw3.JournalPlays returns true. -/
import Derived.Test.YthmjkhlndphldaaGreatDoorPlaysA
import Derived.Test.YthmjkhlndphldaaGreatDoorPlaysB
namespace Go.Proofs.YthmjkhlndphldaaGreatDoor
open Go Go.RowKit
set_option linter.unusedVariables false

theorem plays_any (c : List Acc) (CA : Option Addr) (cn ccap : Nat) (L : List Ent) (LA : Option Addr) (ln lcap : Nat) (ent per : Int) (acc cur : ByteArray) (w : World) (hg : ErrTy w)
    (hcc : cn ≤ ccap) (hcm : ccap ≤ maxLen) (hc : Accs w CA cn c) (hcok : AccOk c) (hlc : ln ≤ lcap) (hlm : lcap ≤ maxLen) (hL : Rd w 4 Ent.enc LA ln L) (hLok : ∀ e, e ∈ L → EntFits w e) :
    Calls Tryz.prog 7 #[.slice CA cn ccap, .slice LA ln lcap, .int .i64 ent, .int .i64 per, .string acc, .string cur] w
      fun e w' => e = .returned (.bool true) ∧ Below w.heap.size w w' := by
  rcases Nat.lt_or_ge 60 ln with h | h
  · exact plays_b c CA cn ccap L LA ln lcap ent per acc cur w hg hcc hcm hc hcok hlc hlm hL h hLok
  · exact plays_a c CA cn ccap L LA ln lcap ent per acc cur w hg hcc hcm hc hcok hlc hlm hL h hLok
end Go.Proofs.YthmjkhlndphldaaGreatDoor

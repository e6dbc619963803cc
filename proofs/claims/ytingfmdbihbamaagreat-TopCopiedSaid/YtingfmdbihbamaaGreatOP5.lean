/- Layer 5, the walks: a truth picked by words. -/
import Derived.Test.YtingfmdbihbamaaGreatOP4
open Go.RowKit
namespace Go.Proofs.YtingfmdbihbamaaGreat
namespace Cp
open Go.Once

/-- A row of words. -/
def WordsAt (W : World) (a : Option Addr) (l : List Nat) : Prop := RowAt W a 1 (l.map fun n : Nat => [Value.int .u16 (n : Int)])
/-- A number between two. -/
def Betw (lo hi : Int) (v : Value) : Prop := ∃ n : Int, v = .int .i64 n ∧ lo ≤ n ∧ n ≤ hi



end Cp
end Go.Proofs.YtingfmdbihbamaaGreat

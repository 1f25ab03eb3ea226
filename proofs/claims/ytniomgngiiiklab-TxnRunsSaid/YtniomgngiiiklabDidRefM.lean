/- The walk of the reference's DidOf: all ways. -/
import Derived.Test.YtniomgngiiiklabDidAM
import Derived.Test.YtniomgngiiiklabDid2M
import Derived.Test.YtniomgngiiiklabDid3M
import Derived.Test.YtniomgngiiiklabJoinSM
import Derived.Test.YtniomgngiiiklabDidCM
namespace Go.Proofs.Ytniomgngiiiklab
open Go.RowKit

theorem didOf_any (M : MWorld) (kind cc : Int) (key val : ByteArray) (A A' : Option Addr) (n c n' c' : Nat) (w : World) (hr : RowsOk w w.heap.size A n c M.rows) (hc : ClientsOk w w.heap.size A' n' c' M.clients) (hks : key.size ≤ maxLen) :
    Calls Try.prog 12 #[.agg #[.slice A n c, .int .i64 M.clock, .slice A' n' c'], .agg #[.int .i64 kind, .int .i64 cc, .string key, .string val]] w (DoRet w (doM M ⟨kind, cc, key, val⟩)) := by
  by_cases h : doCode M ⟨kind, cc, key, val⟩ = 0
  · obtain ⟨_, hk, hcc, _⟩ := doCode_ok h
    obtain ⟨C, hC⟩ : ∃ C : Nat, cc = C := ⟨cc.toNat, by have := hcc.1; dsimp only at this; omega⟩
    dsimp only at hk
    have hkk : kind = 1 ∨ kind = 2 ∨ kind = 3 ∨ kind = 4 ∨ kind = 5 ∨ kind = 6 := by omega
    rcases hkk with e | e | e | e | e | e
    · exact didOf_1 M kind cc key val A A' n c n' c' w hr hc hks C hC h e
    · exact didOf_2 M kind cc key val A A' n c n' c' w hr hc hks C hC h e
    · exact didOf_3 M kind cc key val A A' n c n' c' w hr hc hks C hC h e
    · exact didOf_4 M kind cc key val A A' n c n' c' w hr hc hks C hC h e
    · exact didOf_5 M kind cc key val A A' n c n' c' w hr hc hks C hC h e
    · exact didOf_6 M kind cc key val A A' n c n' c' w hr hc hks C hC h e
  · exact didOf_bad M kind cc key val A A' n c n' c' w hr hc hks h
end Go.Proofs.Ytniomgngiiiklab

/- The walk of keep's run. -/
import Derived.Test.YtniomgngiiiklabDoorTopRun
import Derived.Test.YtniomgngiiiklabDoorAnsOk
namespace Go.Proofs.YtniomgngiiiklabDoor
open Go.RowKit

set_option maxRecDepth 100000 in
set_option maxHeartbeats 2000000 in
theorem keepRun_any (l : List MAct) (A : Option Addr) (m c : Nat) (w : World) (h : ActsOk w w.heap.size A m l) (hm : m ≤ 400) :
    Calls Tryd.prog 34 #[.slice A m c] w fun e w' => ∃ A' c', e = .returned (.tuple #[.slice A' m c', .bool true]) ∧ w'.ownsRow w.heap.size 66 5 (.slice A' m c') m (ansList (runM 3 l).1) ∧ Below w.heap.size w w' := by
  have HA := Lib.hid h
  have HM := Lib.hid h.len
  have HMM : Hid (m ≤ maxLen) := by show m ≤ maxLen; unfold maxLen; omega
  clear h
  obtain ⟨R, hR⟩ : ∃ R, R = runM 3 l := ⟨_, rfl⟩
  rw [← hR]
  have HLN : Hid (R.1.length = l.length) := by show _ = _; rw [hR]; exact length_runM 3 l
  have HE3 : Hid (runAll 3 l = (R.1, R.2, 0)) := by show _ = _; rw [hR]; exact runAll_ok (n := 3) (by decide) (by decide) (by rw [HM.out]; exact hm)
  clear hR
  go_enter Tryd.func34, Tryd.ntmps34
  go_wp2_with fail
  refine (txnRun_any 3 l A m c w HA.out HMM.out).mono ?_
  rintro e w1 hr
  rw [HE3.out] at hr
  obtain ⟨A1, k, c1, B1, n1, e1, hs, B2, n2, e2, hs', rfl, ho, _, _, hb⟩ := hr
  have hk := len_of_cells (f := MAns.cells) (s := 5) (fun _ => rfl) (by decide) ho
  rw [HLN.out, HM.out] at hk
  subst hk
  have HO := Lib.hid ho
  have HL := Lib.hid hb
  clear ho hb
  dsimp only
  go_wp2_with fail
  refine bodyPost_ret (v := .tuple #[.slice A1 k c1, .bool true]) (by simp [results, Tryd.results34, go_sem]) rfl ?_
  exact ⟨A1, c1, rfl, own_at HO.out (fun g hg => Below.heap_alloc _ _ g hg), HL.out.alloc HL.out.size _⟩

end Go.Proofs.YtniomgngiiiklabDoor

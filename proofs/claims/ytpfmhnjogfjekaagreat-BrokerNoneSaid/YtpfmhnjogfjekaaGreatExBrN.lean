/- Law 36: BrokerNone, run by calculation. -/
import Derived.Test.YtpfmhnjogfjekaaGreatExBrR
namespace Go.Proofs.YtpfmhnjogfjekaaGreat
open Go Go.RowKit
namespace Ex
/-- The law at inputs that are not looked into. -/
theorem law36_None (c n : Int) (w : World) : Calls Tryz.prog 3 #[.int .i64 c, .int .i64 n] w fun e w' => e = .returned (.bool true) ∧ Below w.heap.size w w' := by
  let θ : Nat → Value := fun k => if k = 0 then .int .i64 c else .int .i64 n
  have ha : Ra θ (fun _ => none) #[.chan (some 0), .chan (some 1)] #[.int .i64 c, .int .i64 n] := (Rl.cons (.opq 0 ⟨rfl, rfl⟩) (Rl.cons (.opq 1 ⟨rfl, rfl⟩) Rl.nil)).arr
  refine (Ends.calls (θ := θ) xTab_ok noNG (by kernel_rfl) exBrR.first (exBrR.rest θ) ha w).mono ?_
  rintro e w' ⟨v', ρ', h', nx', rfl, hv, hh⟩
  cases hv
  exact ⟨rfl, own_below hh⟩
end Ex
end Go.Proofs.YtpfmhnjogfjekaaGreat

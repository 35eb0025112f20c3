/- Law 36: what is met in a run that has no body. -/
import Derived.Test.YtpfmhnjogfjekaaGreatExY
import Derived.Test.YtpfmhnjogfjekaaGreatProg
import Derived.Laws.LoneSync
namespace Go.Proofs.YtpfmhnjogfjekaaGreat
open Go Go.RowKit
set_option linter.unusedVariables false
set_option maxRecDepth 100000
set_option maxHeartbeats 4000000
namespace Ex
theorem own_below {θ : Nat → Value} {w w' : World} {ρ : Ren} {h : Tr SO} {nx : Nat} (hh : HT θ (own w) ρ h nx w') : Below w.heap.size w w' := ⟨hh.os, hh.tape, hh.output, hh.size, fun k hk => hh.keep k hk⟩
/-- The functions without a body that are met. -/
noncomputable def xTab (f : Nat) : Option XK :=
  bif Nat.beq f 318 then some (.load .u32) else
  bif Nat.beq f 358 then some .store else
  bif Nat.beq f 378 then some .mark0 else
  bif Nat.beq f 380 then some .mark0 else
  bif Nat.beq f 381 then some .markA else
  bif Nat.beq f 383 then some .markA else
  bif Nat.beq f 379 then some (.cas .i32) else
  bif Nat.beq f 384 then some (.add .i32) else
  bif Nat.beq f 242 then some (.load .i64) else
  bif Nat.beq f 243 then some (.add .i64) else none
theorem bifX {f g : Nat} {k k' : XK} {r : Option XK} (h : (bif Nat.beq f g then some k else r) = some k') : (f = g ∧ k = k') ∨ r = some k' := by
  cases hb : Nat.beq f g with
  | true => rw [hb] at h; cases h; exact .inl ⟨Nat.eq_of_beq_eq_true hb, rfl⟩
  | false => rw [hb] at h; exact .inr h
theorem xTab_ok : ∀ f k, xTab f = some k → XOK Tryz.prog f k := fun f k h => by
  unfold xTab at h
  rcases bifX h with ⟨rfl, rfl⟩ | h
  · exact fun a x w hc => run_call_load Tryz.func318 (by kernel_rfl) (by kernel_rfl) (by kernel_rfl) .u32 (by kernel_rfl) hc
  rcases bifX h with ⟨rfl, rfl⟩ | h
  · exact fun a k y u w hc hz => run_call_store Tryz.func358 (by kernel_rfl) (by kernel_rfl) (by kernel_rfl) (by kernel_rfl) hc hz
  rcases bifX h with ⟨rfl, rfl⟩ | h
  · exact fun w => run_call_mark0 Tryz.func378 (by kernel_rfl) (by kernel_rfl) (by kernel_rfl) .disable (by kernel_rfl) w
  rcases bifX h with ⟨rfl, rfl⟩ | h
  · exact fun w => run_call_mark0 Tryz.func380 (by kernel_rfl) (by kernel_rfl) (by kernel_rfl) .enable (by kernel_rfl) w
  rcases bifX h with ⟨rfl, rfl⟩ | h
  · exact fun a w => run_call_marked Tryz.func381 (by kernel_rfl) (by kernel_rfl) (by kernel_rfl) .acquire (by kernel_rfl) a w
  rcases bifX h with ⟨rfl, rfl⟩ | h
  · exact fun a w => run_call_marked Tryz.func383 (by kernel_rfl) (by kernel_rfl) (by kernel_rfl) .releaseMerge (by kernel_rfl) a w
  rcases bifX h with ⟨rfl, rfl⟩ | h
  · exact fun a x y w hc hz => run_call_cas_hit Tryz.func379 (by kernel_rfl) (by kernel_rfl) (by kernel_rfl) .i32 (by kernel_rfl) hc hz
  rcases bifX h with ⟨rfl, rfl⟩ | h
  · exact fun a x y w hc hz => run_call_add Tryz.func384 (by kernel_rfl) (by kernel_rfl) (by kernel_rfl) .i32 (by kernel_rfl) hc hz (by simp [Op.intArith])
  rcases bifX h with ⟨rfl, rfl⟩ | h
  · exact fun a x w hc => run_call_load Tryz.func242 (by kernel_rfl) (by kernel_rfl) (by kernel_rfl) .i64 (by kernel_rfl) hc
  rcases bifX h with ⟨rfl, rfl⟩ | h
  · exact fun a x y w hc hz => run_call_add Tryz.func243 (by kernel_rfl) (by kernel_rfl) (by kernel_rfl) .i64 (by kernel_rfl) hc hz (by simp [Op.intArith])
  cases h
theorem noNG_all : (Tryz.prog.funcs.toList.all fun fn => !(fn.name == "runtime.NumGoroutine")) = true := by kernel_rfl
theorem noNG : NoNG Tryz.prog := fun f fn hf => by
  have := List.all_eq_true.1 noNG_all fn (by
    have := Array.mem_of_getElem? hf
    exact Array.mem_toList_iff.2 this)
  simpa using this
end Ex
end Go.Proofs.YtpfmhnjogfjekaaGreat

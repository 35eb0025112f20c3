/- What append of an owned row does, at an operation of such a region. -/
import Derived.Test.YtpkohkkkbnfigaaDoorTok
import Derived.Test.YtpkohkkkbnfigaaDoorAppend
namespace Go.Proofs.YtpkohkkkbnfigaaDoor
open Go Go.RowKit
set_option linter.unusedVariables false

def sliceBlk : Value → Nat
  | .slice (some a) _ _ => a.block
  | _ => 0
def ptrBlk : Value → Nat
  | .pointer (some a) => a.block
  | _ => 0
def aggOf (u : Value) (j : Nat) : Value := match u with | .agg x => x.getD j undef | _ => undef
def tupOf (u : Value) (i : Nat) : Value := match u with | .tuple t => t.getD i undef | _ => undef

theorem tok_append {P : Program} {w : World} {l : List HProp} {o : Oper} {a : Act} (s x : Operand) (t : TypeId) (hop : o.op = .call { callee := .builtin .append, args := #[s, x], argTypes := #[t, t] })
    {e : TypeId} {i : TypeInfo} {z : Value} {size bytes : Nat} (ht : P.underlying t = some (.slice e)) (hi : P.info? e = some i) (hz : i.zero = some z)
    (hsize : i.size = size) (hby : i.bytes = bytes) (hzs : z.cells.size = size) (hsz : 0 < size)
    {v : Value} {n : Nat} {xs : List Value} (hs : a.eval s = v) (hw : holds w (ownRow e size v n xs :: l))
    {src : Value} {m : Nat} {news : List Value} (hx : a.eval x = src) (hr : reads w size src m news) (h1 : ∀ u ∈ news, u.oneCell' = true)
    (h63 : n + m ≤ maxLen) (hbytes : (n + m) * bytes ≤ 140737488355328) {C : Value → World → Prop} (hC : ∀ v' w', holds w' (ownRow e size v' (n + m) (xs ++ news) :: l) → C v' w') :
    looseUpon P C ((execOp a.eval o).run P w) := by
  obtain ⟨v', w', hrun, r1⟩ := run_append_reads (P := P) (ty := o.type) ht hi hz hsize hby hzs hsz hw hr h1 h63 hbytes
  unfold execOp
  simp only [hop, resolve, invoke, builtin, Sem.run_bind, Sem.run_pure, Result.andThen_ok, List.map_toArray, List.map_cons, List.map_nil, hs, hx, hrun]
  exact hC v' w' r1

/-- What a world reads of a block that it holds. -/
theorem blk_reads {w : World} {l : List HProp} {b : Nat} {cs : Array Value} {e : TypeId} {fz : Nat × Nat} (h : holds w (blk b (.cells cs e fz) :: l)) (size n cap : Nat) (hn : cs.size = n * size) (hc : n ≤ cap) : reads w size (.slice (some ⟨b, 0, none⟩) n cap) n cs.toList := by
  refine ⟨by simpa using hn, _, cap, rfl, hc, .inr ⟨b, 0, rfl, fun i hi => ?_⟩⟩
  rw [cellAt h.get_blk]
  simp
theorem ownRow_form {w : World} {F : List HProp} {e : TypeId} {size n : Nat} {v : Value} {xs : List Value} (h : holds w (ownRow e size v n xs :: F)) : ∃ a cap, v = .slice a n cap := by
  rcases (holds.open_own h).2 with ⟨rfl, h0, _⟩ | ⟨g, cap, cur, rfl, _⟩
  · exact ⟨none, 0, by rw [h0]⟩
  · exact ⟨_, _, rfl⟩
end Go.Proofs.YtpkohkkkbnfigaaDoor

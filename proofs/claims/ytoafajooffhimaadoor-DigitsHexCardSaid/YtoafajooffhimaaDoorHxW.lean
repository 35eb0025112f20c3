/- Digits to the base 16: the library's functions. -/
import Derived.Test.YtoafajooffhimaaDoorDgX
import Derived.Test.YtoafajooffhimaaDoorHxPl
import Derived.Test.YtoafajooffhimaaDoorGoBy
import Derived.Test.YtoafajooffhimaaDoorGoU2
import Derived.Test.YtoafajooffhimaaDoorGoU
namespace Go.Proofs.YtoafajooffhimaaDoor
open Go Go.RowKit Go.MapKept
set_option linter.unusedVariables false
set_option linter.unusedSectionVars false
set_option linter.unusedSimpArgs false
set_option maxRecDepth 100000
set_option maxHeartbeats 4000000
/-- What the library's variables hold as the call begins. -/
structure LibH (W : World) : Prop where
  lib : LibW W
  deb : W.cell? ⟨7, 15, none⟩ = some (.int .u8 4)
theorem LibH.debAt {W w : World} {F F' : List HProp} (h : LibH W) [hp : Has F (allOf W) F'] (hw : holds w F) : w.cell? ⟨7, 15, none⟩ = some (.int .u8 4) := by
  have hb := (hw.perm hp.perm).below_all
  rw [hb.cell (Lib.lt_of_cell h.deb)]; exact h.deb
section
variable {P : Program} {n d : Nat} {Q : Exit → Act → World → Prop} {env : Env} {F F' : List HProp} {ops : Array Oper} {rest : List Oper} {ty : TypeId} {pos : String} {aft : Array Edge} {x y : Operand} {xT yT : TypeId}
theorem Runs.loadG {t : TypeId} {g o : Nat} {v : Value} [CellT P t] (hx : opnd env x = some (.pointer (some ⟨g, o, none⟩))) (hv : ∀ w, holds w F → w.cell? ⟨g, o, none⟩ = some v) : Runs P n env F (.load t x) v := .mk fun a w ty pos aft gd d hf hw => by
  have hc := hv w hw
  simp [execOp, hf.eval hx, Instr.loadAt, Instr.sureAddr, run_loadCell (P := P) (t := t) hc, Result.andThen]
theorem Runs.negU {t : TypeId} {i j : Int} (hx : opnd env x = some (.int .u64 i)) (hj : IntKind.u64.wrap (0 - i) = j) : Runs P n env F (.unOp .neg t x) (.int .u64 j) := .mk fun a w ty pos aft g d hf hw => by
  subst hj
  simp [execOp, hf.eval hx, Op.unary, Op.intArith, Result.andThen]
theorem Runs.andC {k : IntKind} {i j r : Int} (hx : opnd env x = some (.int k i)) (hy : opnd env y = some (.int k j)) (hr : ∀ w : World, (Op.intBits .and k i j).run P w = .ok (.int k r) w) : Runs P n env F (.binOp .and xT x y yT) (.int k r) := .mk fun a w ty pos aft g d hf hw => by
  simp only [execOp, hf.eval hx, hf.eval hy]
  have e2 : eqGuard .and xT x y (.int k i) (.int k j) = pure () := rfl
  have e3 : binOp .and xT (.int k i) (.int k j) = Op.intBits .and k i j := by cases k <;> rfl
  rw [e2, e3]
  simp [Result.andThen, hr]
theorem Runs.mulE {k : IntKind} {i j r : Int} (hx : opnd env x = some (.int k i)) (hy : opnd env y = some (.int k j)) (hr : k.wrap (i * j) = r) : Runs P n env F (.binOp .mul xT x y yT) (.int k r) := hr ▸ Runs.mulK hx hy
theorem Runs.subE {k : IntKind} {i j r : Int} (hx : opnd env x = some (.int k i)) (hy : opnd env y = some (.int k j)) (hr : k.wrap (i - j) = r) : Runs P n env F (.binOp .sub xT x y yT) (.int k r) := hr ▸ Runs.subK hx hy
theorem Runs.convE {t u : TypeId} {j k : IntKind} {i r : Int} [ht : IntT P t j] [hu : IntT P u k] (hx : opnd env x = some (.int j i)) (hr : k.wrap i = r) : Runs P n env F (.convert t u x) (.int k r) := hr ▸ Runs.convW hx
theorem Runs.shrE {k : IntKind} {i c r : Int} (hx : opnd env x = some (.int .u64 i)) (hy : opnd env y = some (.int k c)) (h : 0 ≤ c ∧ c ≤ 64) (hr : i / (2 ^ c.toNat : Int) = r) : Runs P n env F (.binOp .shr xT x y yT) (.int .u64 r) := hr ▸ Runs.shrC hx hy h
theorem Runs.indexArrK {t e : TypeId} {i : Int} {k b o len size : Nat} {kk : IntKind} [ht : ArrT P t len e size] (hx : opnd env x = some (.pointer (some ⟨b, o, none⟩))) (hy : opnd env y = some (.int kk i)) (hik : i = (k : Int)) (hk : k < len) :
    Runs P n env F (.indexAddr t x y) (.pointer (some ⟨b, o + k * size, none⟩)) := .mk fun a w ty pos aft g d hf hw => by
  subst hik
  obtain ⟨i, h1, h2, h3⟩ := ht.ok
  simp [execOp, hf.eval hx, hf.eval hy, Instr.indexAt, asIntOf, run_underlying h1, Instr.sureAddr, sizeOf, typeInfo, h2, h3, hk, addr_add, Result.andThen]
theorem Runs.convRune {t u : TypeId} {k : IntKind} {r : Int} [ht : IntT P t k] [hu : StrT P u] (hx : opnd env x = some (.int k r)) : Runs P n env F (.convert t u x) (.string (Utf8.encode r)) := .mk fun a w ty pos aft g d hf hw => by
  simp [execOp, hf.eval hx, convert, run_underlying ht.ok, run_underlying hu.ok, Conv.intToString, Result.andThen]
/-- A byte is stored in an array of bytes. -/
theorem GL.storeByte {t T : TypeId} {b k m : Nat} {l : List UInt8} (c : UInt8) (hx : opnd env x = some (.pointer (some ⟨b, k, none⟩))) (hy : opnd env y = some (.int .u8 (c.toNat : Int))) [ht : CellT P t] [hb : HasBy F b T m l F'] (hk : k < m)
    (h : GL P n ops Q rest env (byB T b m (l.set k c) :: F')) : GL P n ops Q (⟨none, .store t x y, ty, pos, aft, none⟩ :: rest) env F := .mk fun a w hf hw => by
  obtain ⟨hl, hbl⟩ := byB.open (hw.perm hb.perm)
  refine wpList_store_sl rfl rfl t x y rfl (off := k) (.int .u8 (c.toNat : Int)) (hf.eval hx) (hf.eval hy) ?_ ?_ hbl ?_ fun w' hw' => h a w' hf (byB.shut (by simpa using hl) ?_)
  · obtain ⟨i, ds, g1, g2, g3, g4⟩ := ht.ok
    simp [g1, g2, Value.cells]
  · intro u hu
    simp [Value.cells] at hu
    subst hu; rfl
  · simp [Value.cells, hl]; omega
  · have e : (l.map u8v).toArray.toList.take k ++ (Value.int .u8 (c.toNat : Int)).cells.toList ++ (l.map u8v).toArray.toList.drop (k + (Value.int .u8 (c.toNat : Int)).cells.size) = (l.set k c).map u8v := by
      rw [List.set_eq_take_append_cons_drop, if_pos (by omega)]
      simp [Value.cells, List.map_take, List.map_drop, u8v]
    rw [e] at hw'; exact hw'
/-- The text of an array's end. -/
theorem Runs.textFrom {t u e : TypeId} {g k m q cp : Nat} {l : List UInt8} [ht : SliceT P t e 1] [he : IntT P e .u8] [hu : StrT P u] (hx : opnd env x = some (.slice (some ⟨g, k, none⟩) q cp)) [hs : SeesBy F g m l] (hq : q = m - k) (hk : k ≤ m) : Runs P n env F (.convert t u x) (.string (bs (l.drop k))) := .mk fun a w ty pos aft gd d hf hw => by
  obtain ⟨it, g1, g2, g3⟩ := ht.ok
  obtain ⟨rfl, T, hb⟩ := hs.at_ w hw
  subst hq
  have := run_convert_bytes_back (P := P) w t u e ⟨g, k, none⟩ cp (l.drop k) g1 he.ok hu.ok (fun j hj => by
    rw [addr_add, by_cell hb, ← List.getElem?_drop, List.getElem?_eq_getElem hj]; rfl)
  rw [List.length_drop] at this
  simp [execOp, hf.eval hx, this, Result.andThen]
  rfl
end
namespace Hx
def dig36 : List UInt8 := [48, 49, 50, 51, 52, 53, 54, 55, 56, 57, 97, 98, 99, 100, 101, 102, 103, 104, 105, 106, 107, 108, 109, 110, 111, 112, 113, 114, 115, 116, 117, 118, 119, 120, 121, 122]
theorem dig36_at : ∀ k : Fin 16, dig36[k.val]'(by simp [dig36]; omega) = hexd k := by decide +kernel
theorem dig36_is (k : Nat) (h : k < 16) : dig36[k]'(by simp [dig36]; omega) = hexd k := dig36_at ⟨k, h⟩
theorem and15 (v : Nat) (h : v < 18446744073709551616) : andI v 15 = ((v % 16 : Nat) : Int) := by
  unfold andI
  have h15 : (BitVec.ofInt 64 15).toNat = 2 ^ 4 - 1 := by decide
  rw [BitVec.toNat_and, BitVec.toNat_ofInt, h15, Nat.and_two_pow_sub_one_eq_mod]
  congr 1
  have : ((v : Int) % ((2 ^ 64 : Nat) : Int)).toNat = v := by
    have : ((2 ^ 64 : Nat) : Int) = 18446744073709551616 := by decide
    rw [this]; omega
  rw [this]
end Hx
theorem Runs.digAt {P : Program} {n : Nat} {env : Env} {F : List HProp} {y : Operand} {xT : TypeId} [ht : StrT P xT] {i : Int} {k : Nat} {kk : IntKind} (hy : opnd env y = some (.int kk i)) (hi : i = (k : Int)) (hk : k < 16) : Runs P n env F (.index xT (.const (.string (bs Hx.dig36))) y) (.int .u8 ((Hx.hexd k).toNat : Int)) := by
  have h := Runs.strAt (P := P) (n := n) (env := env) (F := F) (x := .const (.string (bs Hx.dig36))) (l := Hx.dig36) (xT := xT) rfl hy hi (show k < 36 by omega)
  rw [← Hx.dig36_is k hk]
  exact h
section
variable {W : World}
theorem bits_tz64 (hL : LibH W) (w : World) (F : List HProp) {F' : List HProp} [hp : Has F (allOf W) F'] (hw : holds w F) :
    Ct Tryd.prog 86 #[.int .u64 16] w fun e w' => e = .returned (.int .i64 4) ∧ holds w' F := by
  refine Ct.go (args := [.int .u64 16]) Tryd.func86 rfl rfl rfl hw ?_
  repeat' (first | (first | (apply GL.isAny; first | refine GL.run (v := .int .u64 18446744073709551600) (Runs.negU rfl (by decide)) rfl ?_ | refine GL.run (v := .int .u64 16) (Runs.andC rfl rfl (fun w => by rfl)) rfl ?_ | refine GL.run (v := .int .u64 4573923408821661840) (Runs.mulE rfl rfl (by decide)) rfl ?_ | refine GL.run (v := .int .u64 15) (Runs.shrE rfl rfl (by omega) (by decide)) rfl ?_ | refine GL.run (Runs.indexArrK (k := 15) rfl rfl rfl (by omega)) rfl ?_ | refine GL.run (v := .int .u8 4) (Runs.loadG rfl (fun w h => hL.debAt h)) rfl ?_)) | first | refine stp ?_ | (refine stpB ?_; intro _) | (refine spl ?_ ?_ <;> intro hc <;> ((try simp only [decide_eq_true_eq, decide_eq_false_iff_not, Bool.not_true, Bool.not_false, ne_eq, Classical.not_not, Int.not_lt, Int.not_le] at hc); (try (exfalso; first | omega | exact hc trivial | exact hc rfl)))))
  all_goals (first | (exfalso; simp at hc; done) | skip)
  refine GE.resOne rfl (by (repeat (first | apply Res.nil | (apply Res.tmp; rfl) | (refine Res.cellA rfl rfl rfl ?_) | (refine Res.cell1 rfl rfl ?_)))) (fun w h => ?_); exact ⟨rfl, h.sub⟩
theorem bits_tz (hL : LibH W) (w : World) (F : List HProp) {F' : List HProp} [hp : Has F (allOf W) F'] (hw : holds w F) :
    Ct Tryd.prog 80 #[.int .u64 16] w fun e w' => e = .returned (.int .i64 4) ∧ holds w' F := by
  refine Ct.go (args := [.int .u64 16]) Tryd.func80 rfl rfl rfl hw ?_
  repeat' (first | ((apply GL.isCall; refine GL.call1 rfl rfl (fun w h => bits_tz64 hL w _ h) ?_)) | first | refine stp ?_ | (refine stpB ?_; intro _) | (refine spl ?_ ?_ <;> intro hc <;> ((try simp only [decide_eq_true_eq, decide_eq_false_iff_not, Bool.not_true, Bool.not_false, ne_eq, Classical.not_not, Int.not_lt, Int.not_le] at hc); (try (exfalso; first | omega | exact hc trivial | exact hc rfl)))))
  refine GE.resOne rfl (by (repeat (first | apply Res.nil | (apply Res.tmp; rfl) | (refine Res.cellA rfl rfl rfl ?_) | (refine Res.cell1 rfl rfl ?_)))) (fun w h => ?_); exact ⟨rfl, h.sub⟩
theorem sc_pow2 (w : World) (F : List HProp) (hw : holds w F) :
    Ct Tryd.prog 79 #[.int .i64 16] w fun e w' => e = .returned (.bool true) ∧ holds w' F := by
  refine Ct.go (args := [.int .i64 16]) Tryd.func79 rfl rfl rfl hw ?_
  repeat' (first | ((apply GL.isAny; refine GL.run (v := .int .i64 0) (Runs.andC rfl rfl (fun w => by rfl)) rfl ?_)) | first | refine stp ?_ | (refine stpB ?_; intro _) | (refine spl ?_ ?_ <;> intro hc <;> ((try simp only [decide_eq_true_eq, decide_eq_false_iff_not, Bool.not_true, Bool.not_false, ne_eq, Classical.not_not, Int.not_lt, Int.not_le] at hc); (try (exfalso; first | omega | exact hc trivial | exact hc rfl)))))
  refine GE.resOne rfl (by (repeat (first | apply Res.nil | (apply Res.tmp; rfl) | (refine Res.cellA rfl rfl rfl ?_) | (refine Res.cell1 rfl rfl ?_)))) (fun w h => ?_); exact ⟨rfl, h.sub⟩
theorem sc_formatBits (hL : LibH W) (u : Nat) (hu : u < 9223372036854775808) (w : World) (F : List HProp) {F' : List HProp} [hp : Has F (allOf W) F'] (hw : holds w F) :
    Ct Tryd.prog 62 #[.slice none 0 0, .int .u64 (u : Nat), .int .i64 16, .bool false, .bool false] w fun e w' => e = .returned (.tuple #[.slice none 0 0, .string (bs (Hx.hexD u))]) ∧ holds w' F := by
  refine Ct.go (args := [.slice none 0 0, .int .u64 (u : Nat), .int .i64 16, .bool false, .bool false]) Tryd.func62 rfl rfl rfl hw ?_
  have hlen := Hx.hexD_len 15 u (by rw [show 16 ^ (15 + 1) = 18446744073709551616 by decide]; omega)
  repeat' (first | (first | (apply GL.isCall; refine GL.call1 rfl rfl (fun w h => sc_pow2 w _ h) ?_) | (apply GL.isCall; refine GL.call1 rfl rfl (fun w h => bits_tz hL w _ h) ?_) | (apply GL.isAny; first | refine GL.run (v := .int .u64 16) (Runs.convE rfl (by decide)) rfl ?_ | refine GL.run (v := .int .u64 4) (Runs.convE rfl (by decide)) rfl ?_ | refine GL.run (v := .int .u64 15) (Runs.subE rfl rfl (by decide)) rfl ?_) | (apply GL.isAlloc; refine GL.alloc rfl (fun b => ?_))) | first | refine stp ?_ | (refine stpB ?_; intro _) | (refine spl ?_ ?_ <;> intro hc <;> ((try simp only [decide_eq_true_eq, decide_eq_false_iff_not, Bool.not_true, Bool.not_false, ne_eq, Classical.not_not, Int.not_lt, Int.not_le] at hc); (try (exfalso; first | omega | exact hc trivial | exact hc rfl)))))
  all_goals (first | (exfalso; simp at hc; done) | skip)
  refine G.imp (F' := byB 98 b 65 (List.replicate 65 0) :: F) ?_ (fun w h => byB.shut (l := List.replicate 65 0) (by simp) (show holds w (blk b (.cells ((List.replicate 65 (0 : UInt8)).map u8v).toArray 98 (0, 0)) :: F) from h))
  refine G.sub (e := [(13, .int .i64 ((65 : Nat) : Int)), (1, .int .u64 (u : Nat)), (3, .bool false), (4, .bool false), (10, .slice none 0 0), (12, .pointer (some ⟨b, 0, none⟩)), (14, .int .u64 4), (15, .int .u64 16), (16, .int .u64 15)]) ?_ ⟨rfl, rfl, rfl, rfl, rfl, rfl, rfl, rfl, rfl, trivial⟩
  refine G.loopK [3, 4, 10, 12, 14, 15, 16] (Nat × Nat × List UInt8) (fun y => [(13, .int .i64 (y.1 : Nat)), (1, .int .u64 (y.2.1 : Nat))]) (fun y => byB 98 b 65 y.2.2 :: F) (fun y => y.1 ≤ 65 ∧ y.2.2.length = 65 ∧ y.2.1 ≤ u ∧ Hx.hexD u = Hx.hexD y.2.1 ++ y.2.2.drop y.1) (fun y => y.2.1) ((65, u, List.replicate 65 0)) (⟨Nat.le_refl _, by simp, Nat.le_refl _, by simp⟩) (by repeat (first | exact trivial | refine And.intro rfl ?_)) (fun w h => by (try dsimp only); first | exact h | exact h.sub | ((try simp only [List.take_zero, List.drop_zero, List.map_nil, List.nil_append, List.zipIdx_nil, List.filter_nil]); exact h.sub)) ?_
  rintro ⟨i, v, l⟩ ⟨hi, hl, hv, he⟩
  dsimp only at hi hl hv he ⊢
  have hi1 : 1 ≤ i := by
    have h1 := congrArg List.length he
    have h2 := Hx.hexD_len 15 v (by rw [show 16 ^ (15 + 1) = 18446744073709551616 by decide]; omega)
    rw [List.length_append, List.length_drop] at h1
    omega
  have hii : (i : Int) - 1 = ((i - 1 : Nat) : Int) := by omega
  have hdr : ∀ c : UInt8, (l.set (i - 1) c).drop (i - 1) = c :: l.drop i := fun c => by
    rw [List.drop_eq_getElem_cons (by simp; omega), List.getElem_set_self, List.drop_set_of_lt (by omega), show i - 1 + 1 = i by omega]
  by_cases hb : 16 ≤ v
  · have hsh : (v : Int) / (2 ^ (4 : Int).toNat : Int) = ((v / 16 : Nat) : Int) := by
      have : (2 ^ (4 : Int).toNat : Int) = 16 := by decide
      rw [this]; omega
    have han := Hx.and15 v (by omega)
    repeat' (first | (first | (rw [hii]) | (rw [han]) | (apply GL.isAny; first | refine GL.run (Runs.andU rfl rfl) rfl ?_ | refine GL.run (v := .int .u64 ((v / 16 : Nat) : Int)) (Runs.shrE rfl rfl (by omega) hsh) rfl ?_ | refine GL.run (Runs.indexArr (k := i - 1) rfl rfl rfl (by omega)) rfl ?_) | (apply GL.isAny; refine GL.run (Runs.digAt (k := v % 16) rfl rfl (by omega)) rfl ?_) | (apply GL.isStore; refine GL.storeByte (k := 0 + (i - 1) * 1) (Hx.hexd (v % 16)) rfl rfl (by omega) ?_)) | first | refine stp ?_ | (refine stpB ?_; intro _) | (refine spl ?_ ?_ <;> intro hc <;> ((try simp only [decide_eq_true_eq, decide_eq_false_iff_not, Bool.not_true, Bool.not_false, ne_eq, Classical.not_not, Int.not_lt, Int.not_le] at hc); (try (exfalso; first | omega | exact hc trivial | exact hc rfl)))))
    all_goals (first | (exfalso; omega) | skip)
    have hbig := Hx.hexD_big (u := v) (by omega)
    refine GE.round (i - 1, v / 16, l.set (i - 1) (Hx.hexd (v % 16))) ⟨by dsimp only; omega, by simpa using hl, by dsimp only; omega, by dsimp only; rw [hdr, he, hbig, List.append_assoc]; rfl⟩ (by repeat (first | exact trivial | refine And.intro rfl ?_)) (fun w h => by (try dsimp only); rw [Nat.zero_add, Nat.mul_one] at h; exact h.sub) (by (try dsimp only); omega)
  · have hvs := Hx.hexD_small (u := v) (by omega)
    repeat' (first | (first | (rw [hii]) | (apply GL.isAny; refine GL.run (Runs.indexArr (k := i - 1) rfl rfl rfl (by omega)) rfl ?_) | (apply GL.isAny; refine GL.run (Runs.digAt (k := v) rfl rfl (by omega)) rfl ?_) | (apply GL.isStore; refine GL.storeByte (k := 0 + (i - 1) * 1) (Hx.hexd v) rfl rfl (by omega) ?_) | (apply GL.isAny; refine GL.run (Runs.sliceArr (m := 65) (i - 1) 65 rfl rfl rfl rfl rfl (by omega) (by omega) (by omega)) rfl ?_) | (apply GL.isAny; refine GL.run (Runs.textFrom (k := i - 1) (m := 65) rfl rfl (by omega)) rfl ?_)) | first | refine stp ?_ | (refine stpB ?_; intro _) | (refine spl ?_ ?_ <;> intro hc <;> ((try simp only [decide_eq_true_eq, decide_eq_false_iff_not, Bool.not_true, Bool.not_false, ne_eq, Classical.not_not, Int.not_lt, Int.not_le] at hc); (try (exfalso; first | omega | exact hc trivial | exact hc rfl)))))
    all_goals (first | (exfalso; omega) | skip)
    have hu' : Hx.hexD u = (l.set (0 + (i - 1) * 1) (Hx.hexd v)).drop (i - 1) := by rw [Nat.zero_add, Nat.mul_one, hdr, he, hvs]; rfl
    rw [hu']
    refine GE.resMany rfl (by (repeat (first | apply Res.nil | (apply Res.tmp; rfl) | (refine Res.cellA rfl rfl rfl ?_) | (refine Res.cell1 rfl rfl ?_)))) (fun w h => ?_)
    exact ⟨rfl, h.sub⟩
end
end Go.Proofs.YtoafajooffhimaaDoor

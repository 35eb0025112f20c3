import Derived.Test.YtipkgamiejenaaaGreatMg15
import Derived.Test.YtipkgamiejenaaaGreatMg8
import Derived.Test.YtipkgamiejenaaaGreatMg20
import Derived.Test.YtipkgamiejenaaaGreatMg7
import Derived.Test.YtipkgamiejenaaaGreatMg19
import Derived.Test.YtipkgamiejenaaaGreatMg11
import Derived.Test.YtipkgamiejenaaaGreatMg14
import Derived.Test.YtipkgamiejenaaaGreatMg5
import Derived.Test.YtipkgamiejenaaaGreatMg17
import Derived.Test.YtipkgamiejenaaaGreatMg16
/- The laws of chapter 19: the example, and StoreNone. -/
namespace Go.Proofs.YtipkgamiejenaaaGreat
open Go Go.RowKit Go.MapKept
set_option linter.unusedVariables false
set_option linter.unusedSectionVars false
set_option linter.unusedSimpArgs false
set_option maxRecDepth 100000
set_option maxHeartbeats 4000000
namespace St
def w1 : S := (take (new 2 64) 7).1
def w2 : S := (put w1 0 0 3 [97, 98, 99]).1
def w3 : S := (give w2 0 7).1
def w4 : S := (start w3 0).1
def w5 : S := (step w4 0 64).1
end St
end Go.Proofs.YtipkgamiejenaaaGreat

/- The law StoreRound of chapter 19. -/
namespace Go.Proofs.YtipkgamiejenaaaGreat
open Go Go.RowKit Go.MapKept
set_option linter.unusedVariables false
set_option linter.unusedSectionVars false
set_option linter.unusedSimpArgs false
set_option maxRecDepth 100000
set_option maxHeartbeats 4000000
section
variable {P : Program} {n k d : Nat} {env : Env} {F F0 : List HProp} {ops : Array Oper} {rest : List Oper} {ty : TypeId} {pos : String} {aft : Array Edge} {Z : Act → Prop}
end
structure ActM where
  kd : Int
  i : Int
  ow : Int
  ge : Int
  at_ : Int
  n : Int
  tx : List UInt8
def encAct (a : ActM) : List Value := [.int .i64 a.kd, .int .i64 a.i, .int .i64 a.ow, .int .i64 a.ge, .int .i64 a.at_, .int .i64 a.n, .string (bs a.tx)]
instance : Enc encAct 7 := ⟨fun _ => rfl, fun _ => by simp [encAct, Value.oneCell'], by omega⟩
namespace St
theorem take_len (t : S) (ow : Int) : (take t ow).1.ch.length = t.ch.length := by
  unfold take
  split
  · rfl
  · cases t.stack.getLast? with
    | none => rfl
    | some i => simp
theorem give_len (t : S) (i ow : Int) : (give t i ow).1.ch.length = t.ch.length := by unfold give; split; rfl; split; rfl; simp
end St
end Go.Proofs.YtipkgamiejenaaaGreat

/- The law StorePlays of chapter 19: a call on both. -/
namespace Go.Proofs.YtipkgamiejenaaaGreat
open Go Go.RowKit Go.MapKept
set_option linter.unusedVariables false
set_option linter.unusedSectionVars false
set_option linter.unusedSimpArgs false
set_option maxRecDepth 100000
set_option maxHeartbeats 4000000
section
variable {P : Program} {n : Nat} {env : Env} {F : List HProp} {xT yT : TypeId} {x y : Operand}
theorem Runs.eqBlR [ht : BoT P xT] {a : Bool} (hx : opnd env x = some (.bool a)) (hy : opnd env y = some (.bool a)) : Runs P n env F (.binOp .eql xT x y yT) (.bool true) := by
  have := Runs.eqBl (P := P) (n := n) (F := F) (xT := xT) (yT := yT) hx hy
  rwa [decide_eq_true rfl] at this
end
def St.act (t : St.S) (a : ActM) : St.S :=
  if a.kd = 0 then (St.take t a.ow).1 else if a.kd = 1 then (St.give t a.i a.ow).1 else if a.kd = 2 then (St.start t a.i).1 else if a.kd = 3 then (St.step t a.i a.n).1 else if a.kd = 4 then t else (St.put t a.i a.ge a.at_ a.tx).1
section
variable (sb : Nat) (v : Value) (t : St.S) (K : Nat) (hI : St.Inv t K) (hK : K ≤ 1000000)
include hI hK
end
end Go.Proofs.YtipkgamiejenaaaGreat

/- The law StorePlays of chapter 19: reference 10's Dirty; what both tell of a chunk; rows that are alike. -/
namespace Go.Proofs.YtipkgamiejenaaaGreat
open Go Go.RowKit Go.MapKept
set_option linter.unusedVariables false
set_option linter.unusedSectionVars false
set_option linter.unusedSimpArgs false
set_option maxRecDepth 100000
set_option maxHeartbeats 4000000
def dirt (b : List UInt8) : Nat := (b.filter fun y => decide (y ≠ 0)).length
theorem st_Ints (v u : Value) (l m : List Int) (hn : l.length ≤ 1048576) (hm : m.length ≤ 1048576) (w : World) (F : List HProp) [Reads F v encI1 1 l] [Reads F u encI1 1 m] (hw : holds w F) :
    Ct Tryz.prog 20 #[v, u] w fun e w' => e = .returned (.bool (decide (l = m))) ∧ holds w' F := by
  refine Ct.go (args := [v, u]) Tryz.func20 rfl rfl rfl hw ?_
  repeat' (first | refine stp ?_ | (refine stpB ?_; intro _) | (refine spl ?_ ?_ <;> intro hc <;> ((try simp only [decide_eq_true_eq, decide_eq_false_iff_not, Bool.not_true, Bool.not_false, ne_eq, Classical.not_not, Int.not_lt, Int.not_le] at hc); (try (exfalso; first | omega | exact hc trivial | exact hc rfl)))))
  · refine GE.resOne rfl (by (repeat (first | apply Res.nil | (apply Res.tmp; rfl) | (refine Res.cellA rfl rfl rfl ?_) | (refine Res.cell1 rfl rfl ?_)))) (fun w h => ?_)
    rw [decide_eq_false (fun e => by subst e; omega)]
    exact ⟨rfl, h.sub⟩
  refine G.loop (α := Nat) (fun i => [(0, v), (1, u), (5, .int .i64 i)]) (fun i => F) (fun i => i ≤ l.length ∧ l.take i = m.take i) (fun i => l.length - i) 0 ⟨by omega, by simp⟩ ⟨rfl, rfl, rfl, trivial⟩ (fun w h => h) ?_
  rintro i ⟨hi, hlo⟩
  repeat' (first | refine stp ?_ | (refine stpB ?_; intro _) | (refine spl ?_ ?_ <;> intro hc <;> ((try simp only [decide_eq_true_eq, decide_eq_false_iff_not, Bool.not_true, Bool.not_false, ne_eq, Classical.not_not, Int.not_lt, Int.not_le] at hc); (try (exfalso; first | omega | exact hc trivial | exact hc rfl)))))
  · refine GE.resOne rfl (by (repeat (first | apply Res.nil | (apply Res.tmp; rfl) | (refine Res.cellA rfl rfl rfl ?_) | (refine Res.cell1 rfl rfl ?_)))) (fun w h => ?_)
    rename_i hc1 _ _ _ _
    rw [decide_eq_false (fun e => by subst e; exact hc rfl)]
    exact ⟨rfl, h.sub⟩
  · refine GE.round (i + 1) ⟨by omega, ?_⟩ ⟨rfl, rfl, rfl, trivial⟩ (fun w h => h.sub) (by omega)
    rw [List.take_succ_eq_append_getElem (by omega), List.take_succ_eq_append_getElem (by omega), hlo, hc]
  · refine GE.resOne rfl (by (repeat (first | apply Res.nil | (apply Res.tmp; rfl) | (refine Res.cellA rfl rfl rfl ?_) | (refine Res.cell1 rfl rfl ?_)))) (fun w h => ?_)
    rw [List.take_of_length_le (by omega), List.take_of_length_le (by omega)] at hlo
    rw [decide_eq_true hlo]
    exact ⟨rfl, h.sub⟩
instance {c : ChunkM} : IntsL (encCk c) [c.phase, c.owner, c.gen] := ⟨rfl⟩
theorem ChunkM.ext3 {a b : ChunkM} : a = b ↔ a.phase = b.phase ∧ a.owner = b.owner ∧ a.gen = b.gen := by
  cases a; cases b; simp
instance : DecidableEq ChunkM := fun a b => decidable_of_iff _ ChunkM.ext3.symm
theorem base_SameChunks (va vb : Value) (la lb : List ChunkM) (hl : la.length ≤ 1099511627776) (hl2 : lb.length ≤ 1099511627776) (w : World) (F : List HProp) [Reads F va encCk 3 la] [Reads F vb encCk 3 lb] (hw : holds w F) :
    Ct Tryz.prog 19 #[va, vb] w fun e w' => e = .returned (.bool (decide (la = lb))) ∧ holds w' F := by
  refine Ct.go (args := [va, vb]) Tryz.func19 rfl rfl rfl hw ?_
  by_cases hlen : la.length = lb.length
  · repeat' (first | refine stp ?_ | (refine stpB ?_; intro _) | (refine spl ?_ ?_ <;> intro hc <;> ((try simp only [decide_eq_true_eq, decide_eq_false_iff_not, Bool.not_true, Bool.not_false, ne_eq, Classical.not_not, Int.not_lt, Int.not_le] at hc); (try (exfalso; first | omega | exact hc trivial | exact hc rfl)))))
    refine G.loop (α := Nat) (fun k => [(0, va), (1, vb), (5, .int .i64 k)]) (fun k => F) (fun k => k ≤ la.length ∧ la.take k = lb.take k) (fun k => la.length - k) 0 ⟨Nat.zero_le _, rfl⟩ ⟨rfl, rfl, rfl, trivial⟩ (fun w h => h) ?_
    rintro k ⟨hk, hn⟩
    by_cases hlt : k < la.length
    · have hlt2 : k < lb.length := by omega
      repeat' (first | refine stp ?_ | (refine stpB ?_; intro _) | (refine spl ?_ ?_ <;> intro hc <;> ((try simp only [decide_eq_true_eq, decide_eq_false_iff_not, Bool.not_true, Bool.not_false, ne_eq, Classical.not_not, Int.not_lt, Int.not_le] at hc); (try (exfalso; first | omega | exact hc trivial | exact hc rfl)))))
      · refine GE.resOne rfl (by (repeat (first | apply Res.nil | (apply Res.tmp; rfl) | (refine Res.cellA rfl rfl rfl ?_) | (refine Res.cell1 rfl rfl ?_)))) (fun w h => ?_)
        refine ⟨?_, h.sub⟩
        have hne : ¬ la = lb := fun e => by subst e; simp at hc
        rw [decide_eq_false hne]
      · have he : la[k] = lb[k] := by simpa [ChunkM.ext3] using hc
        exact GE.round (k + 1) ⟨by omega, by rw [List.take_succ_eq_append_getElem hlt, List.take_succ_eq_append_getElem hlt2, hn, he]⟩ ⟨rfl, rfl, rfl, trivial⟩ (fun w h => h.sub) (by omega)
    · repeat' (first | refine stp ?_ | (refine stpB ?_; intro _) | (refine spl ?_ ?_ <;> intro hc <;> ((try simp only [decide_eq_true_eq, decide_eq_false_iff_not, Bool.not_true, Bool.not_false, ne_eq, Classical.not_not, Int.not_lt, Int.not_le] at hc); (try (exfalso; first | omega | exact hc trivial | exact hc rfl)))))
      refine GE.resOne rfl (by (repeat (first | apply Res.nil | (apply Res.tmp; rfl) | (refine Res.cellA rfl rfl rfl ?_) | (refine Res.cell1 rfl rfl ?_)))) (fun w h => ?_)
      obtain rfl : k = la.length := by omega
      rw [List.take_length, hlen, List.take_length] at hn
      subst hn
      exact ⟨by rw [decide_eq_true rfl], h.sub⟩
  · repeat' (first | refine stp ?_ | (refine stpB ?_; intro _) | (refine spl ?_ ?_ <;> intro hc <;> ((try simp only [decide_eq_true_eq, decide_eq_false_iff_not, Bool.not_true, Bool.not_false, ne_eq, Classical.not_not, Int.not_lt, Int.not_le] at hc); (try (exfalso; first | omega | exact hc trivial | exact hc rfl)))))
    refine GE.resOne rfl (by (repeat (first | apply Res.nil | (apply Res.tmp; rfl) | (refine Res.cellA rfl rfl rfl ?_) | (refine Res.cell1 rfl rfl ?_)))) (fun w h => ?_)
    have hne : ¬ la = lb := fun e => hlen (by rw [e])
    exact ⟨by rw [decide_eq_false hne], h.sub⟩
section
variable (sb : Nat) (v : Value) (t : St.S) (K : Nat) (hI : St.Inv t K) (hK : K ≤ 1000000)
include hI hK
end
end Go.Proofs.YtipkgamiejenaaaGreat

/- A reclaiming stays right behind a tick; the chapter's example. -/
namespace Go.Proofs.YtipkgamiejenaaaGreat
open Go Go.RowKit Go.MapKept
set_option linter.unusedVariables false
set_option linter.unusedSectionVars false
set_option linter.unusedSimpArgs false
set_option maxRecDepth 100000
set_option maxHeartbeats 4000000
namespace Rc
theorem Ok.tick {m : S} {K : Nat} (h : Ok m K) (p : List Int) (hp : p.length ≤ 64) : Ok (tick m p) (K + 1 + 2 * m.line.length) := by
  obtain ⟨a, b, c, d⟩ := drain_inv m.q.toNat m.t m.line K h.inv h.wt
  have ht : (m.line.take m.q.toNat).length ≤ m.line.length := by rw [List.length_take]; omega
  have hl := lev_in h
  refine ⟨a.mono (by omega), b, h.q, h.low, ?_, fun x hx => ?_, fun x hx => ?_, ?_, ?_⟩
  · show (Tr.ask _ p).length = 64
    unfold Tr.ask
    rw [List.length_append, Tr.spread_len, List.length_replicate]; omega
  · change x ∈ Tr.spread _ p ++ List.replicate _ 0 at hx
    rcases List.mem_append.1 hx with hx | hx
    · refine Tr.spread_b p _ ?_ x hx
      have := h.low
      unfold Tr.I64 Wm.lack; dsimp only; split <;> omega
    · have := (List.mem_replicate.1 hx).2; omega
  · change x ∈ m.lv ++ [lev m] at hx
    rcases List.mem_append.1 hx with hx | hx
    · exact h.lv x hx
    · simp at hx; subst hx; exact hl
  · show (m.lv ++ [lev m]).length ≤ _
    have := h.ll
    simp; omega
  · have := h.fr
    show 0 ≤ m.fr + ((m.line.take m.q.toNat).length : Nat) ∧ m.fr + ((m.line.take m.q.toNat).length : Nat) ≤ ((K + 1 + 2 * m.line.length : Nat) : Int)
    omega
theorem Ok.new {t : St.S} {K : Nat} (hI : St.Inv t K) {q low : Int} (hq : 1 ≤ q ∧ q ≤ 1048576) (hl : 0 ≤ low ∧ low ≤ 1048576) : Ok ⟨t, q, low, [], List.replicate 64 0, [], 0⟩ K :=
  ⟨hI, ⟨by simp, by simp⟩, hq, hl, by simp, fun x hx => by have := (List.mem_replicate.1 hx).2; omega, by simp, by simp, by simp⟩
theorem Ok.take {m : S} {K : Nat} (h : Ok m K) (ow : Int) : Ok { m with t := (St.take m.t ow).1 } (K + 1) := by
  refine ⟨h.inv.take ow, ⟨h.wt.nd, fun x hx => ?_⟩, h.q, h.low, h.wl, h.wb, h.lv, by have := h.ll; dsimp only; omega, by have := h.fr; dsimp only; omega⟩
  obtain ⟨k, rfl, hk, hp⟩ := h.wt.ph x hx
  dsimp only
  unfold St.take
  split
  · exact ⟨k, rfl, hk, hp⟩
  · split
    · exact ⟨k, rfl, hk, hp⟩
    · rename_i i hi
      have him : i ∈ m.t.stack := List.mem_of_getLast? hi
      obtain ⟨j, hj, rfl, hp0⟩ := (h.inv.free i).1 him
      have hjk : k ≠ j := fun e => by subst e; rw [m.t.c_eq k hk] at hp; omega
      refine ⟨k, rfl, by simpa using hk, ?_⟩
      unfold St.S.c at hp ⊢
      dsimp only
      rw [Int.toNat_natCast] at hp
      rw [Int.toNat_natCast, St.getD_set _ _ _ _ _ hj, Int.toNat_natCast, if_neg hjk]
      exact hp
end Rc
namespace Wk
def t1 : St.S := (St.take (St.new 4 64) 1).1
def t2 : St.S := (St.take t1 1).1
def t3 : St.S := (St.take t2 1).1
def m0 : Rc.S := ⟨t3, 2, 4, [], List.replicate 64 0, [], 0⟩
def m1 : Rc.S := (Rc.put m0 2 1).1
def m2 : Rc.S := (Rc.put m1 0 1).1
def m3 : Rc.S := (Rc.put m2 1 1).1
def m4 : Rc.S := Rc.tick m3 [9]
def m5 : Rc.S := Rc.tick m4 []
theorem e1 : (Rc.put m0 2 1).2 = 0 := by decide +kernel
theorem e2 : (Rc.put m1 0 1).2 = 0 := by decide +kernel
theorem e3 : (Rc.put m2 1 1).2 = 0 := by decide +kernel
theorem e4 : (St.give m3.t 1 1).2 = 18 := by decide +kernel
theorem e5 : m3.line = [2, 0, 1] := by decide +kernel
theorem e6 : m4.line = [1] := by decide +kernel
theorem e7 : m5.fr = 3 := by decide +kernel
theorem e8 : m5.lv = [3, 4] := by decide +kernel
theorem e9 : m5.low = 4 := by decide +kernel
theorem e10 : m3.q = 2 ∧ m4.q = 2 := by decide +kernel
theorem i0 : St.Inv (St.new 4 64) 0 := St.Inv.new 4 64 (by omega) (by omega)
theorem i1 : St.Inv t1 1 := i0.take 1
theorem i2 : St.Inv t2 2 := i1.take 1
theorem i3 : St.Inv t3 3 := i2.take 1
theorem o0 : Rc.Ok m0 3 := Rc.Ok.new i3 (by omega) (by omega)
theorem o1 : Rc.Ok m1 4 := o0.put 2 1
theorem o2 : Rc.Ok m2 5 := o1.put 0 1
theorem o3 : Rc.Ok m3 6 := o2.put 1 1
theorem p4 : Rc.put m3 1 1 = (m3, 18) := by unfold Rc.put; rw [if_neg (by rw [e4]; decide), e4]
theorem o4 : Rc.Ok m4 13 := by have := o3.tick [9] (by simp); rw [e5] at this; exact this
theorem o5 : Rc.Ok m5 16 := by have := o4.tick [] (by simp); rw [e6] at this; exact this
end Wk
end Go.Proofs.YtipkgamiejenaaaGreat

/- Law 25: the chapter's example; ReclaimNone. -/
namespace Go.Proofs.YtipkgamiejenaaaGreat
open Go Go.RowKit Go.MapKept
set_option linter.unusedVariables false
set_option linter.unusedSectionVars false
set_option linter.unusedSimpArgs false
set_option maxRecDepth 100000
set_option maxHeartbeats 4000000
theorem wk_Take (sb : Nat) (t : St.S) (K : Nat) (hI : St.Inv t K) (hK : K ≤ 100) (r : Int × Int) (hr : (St.take t 1).2 = r) (w : World) (F : List HProp) (hw : holds w (storeP sb t :: F)) :
    Ct Tryz.prog 25 #[.pointer (some ⟨sb, 0, none⟩), .int .i64 1] w fun e w' => e = .returned (.tuple #[.int .i64 r.1, .int .i64 r.2]) ∧ holds w' (storeP sb (St.take t 1).1 :: F) := by
  have := store_Take sb t K hI (by omega) 1 w F hw
  rw [← hr]; exact this
theorem wk_Put (rb sb : Nat) (m m' : Rc.S) (K : Nat) (hO : Rc.Ok m K) (hK : K ≤ 100) (i e : Int) (hm : Rc.put m i 1 = (m', e)) (t t' : St.S) (ht : m.t = t) (ht' : m'.t = t') (w : World) (F : List HProp) (hw : holds w (recP rb sb m K :: storeP sb t :: F)) :
    Ct Tryz.prog 40 #[.pointer (some ⟨rb, 0, none⟩), .int .i64 i, .int .i64 1] w fun x w' => x = .returned (.int .i64 e) ∧ holds w' (recP rb sb m' (K + 1) :: storeP sb t' :: F) := by
  subst ht ht'
  have := rec_Put rb sb m K hO (by omega) i 1 w F hw
  rw [hm] at this; exact this
theorem wk_Ahead (rb sb : Nat) (w : World) (F : List HProp) (hw : holds w (recP rb sb Wk.m3 7 :: F)) :
    Ct Tryz.prog 42 #[.pointer (some ⟨rb, 0, none⟩), .int .i64 1] w fun e w' => e = .returned (.int .i64 2) ∧ holds w' (recP rb sb Wk.m3 7 :: F) := by
  have := rec_Ahead rb sb Wk.m3 7 (Wk.o3.more (by omega)) (by omega) 1 w F hw
  rw [Wk.e5] at this; exact this
theorem wk_Ints (v u : Value) (l : List Int) (hl : l.length ≤ 1048576) (w : World) (F : List HProp) [Reads F v encI1 1 l] [Reads F u encI1 1 l] (hw : holds w F) :
    Ct Tryz.prog 20 #[v, u] w fun e w' => e = .returned (.bool true) ∧ holds w' F := by
  have := st_Ints v u l l hl hl w F hw
  rw [decide_eq_true rfl] at this; exact this
theorem wk_Freed (rb sb : Nat) (w : World) (F : List HProp) (hw : holds w (recP rb sb Wk.m5 17 :: F)) :
    Ct Tryz.prog 55 #[.pointer (some ⟨rb, 0, none⟩)] w fun e w' => e = .returned (.int .i64 3) ∧ holds w' (recP rb sb Wk.m5 17 :: F) := by
  have := rec_Freed rb sb Wk.m5 17 (Wk.o5.more (by omega)) (by omega) w F hw
  rw [Wk.e7] at this; exact this
theorem wk_Ticks (rb sb : Nat) (w : World) (F : List HProp) (hw : holds w (recP rb sb Wk.m5 17 :: F)) :
    Ct Tryz.prog 54 #[.pointer (some ⟨rb, 0, none⟩)] w fun e w' => e = .returned (.int .i64 2) ∧ holds w' (recP rb sb Wk.m5 17 :: F) := by
  have := rec_Ticks rb sb Wk.m5 17 (Wk.o5.more (by omega)) (by omega) w F hw
  rw [Wk.e8] at this; exact this
theorem wk_Low (rb sb : Nat) (w : World) (F : List HProp) (hw : holds w (recP rb sb Wk.m5 17 :: F)) :
    Ct Tryz.prog 56 #[.pointer (some ⟨rb, 0, none⟩)] w fun e w' => e = .returned (.bool false) ∧ holds w' (recP rb sb Wk.m5 17 :: F) := by
  have := rec_Low rb sb Wk.m5 17 (Wk.o5.more (by omega)) (by omega) w F hw
  rw [Wk.e8, Wk.e9] at this; exact this
theorem wk_Tick (rb sb : Nat) (m : Rc.S) (K : Nat) (hO : Rc.Ok m K) (hK : K ≤ 100) (v : Value) (p : List Int) (hp : p.length ≤ 64) (l o : List Int) (hl : m.line = l) (ho : l.take m.q.toNat = o) (hll : l.length ≤ 10) (w : World) (F : List HProp) [Reads F v encI1 1 p] (hw : holds w (recP rb sb m K :: storeP sb m.t :: F)) :
    Ct Tryz.prog 44 #[.pointer (some ⟨rb, 0, none⟩), v] w fun e w' => ∃ u : Value, e = .returned (.tuple #[u, .int .i64 0]) ∧ holds w' (owns 3 encI1 1 u o :: recP rb sb (Rc.tick m p) (K + 1 + 2 * l.length) :: storeP sb (Rc.tick m p).t :: F) := by
  have := rec_Tick rb sb m K hO (by rw [hl]; omega) v p hp w F hw
  rw [hl, ho] at this; exact this
theorem wk_New (sb : Nat) (w : World) (F : List HProp) (hw : holds w (storeP sb Wk.t3 :: F)) :
    Ct Tryz.prog 38 #[.pointer (some ⟨sb, 0, none⟩), .int .i64 2, .int .i64 4] w fun e w' => ∃ rb : Nat, e = .returned (.tuple #[.pointer (some ⟨rb, 0, none⟩), .int .i64 0]) ∧ holds w' (recP rb sb Wk.m0 3 :: storeP sb Wk.t3 :: F) := rec_New sb Wk.t3 3 Wk.i3 (by omega) 2 4 (by omega) (by omega) w F hw
namespace Wk
theorem q1 : Rc.put m0 2 1 = (m1, 0) := Prod.ext rfl e1
theorem q2 : Rc.put m1 0 1 = (m2, 0) := Prod.ext rfl e2
theorem q3 : Rc.put m2 1 1 = (m3, 0) := Prod.ext rfl e3
end Wk
theorem law25_works (w : World) (F : List HProp) (hw : holds w F) :
    Ct Tryz.prog 46 #[] w fun e w' => e = .returned (.bool true) ∧ holds w' F := by
  refine Ct.go (args := []) Tryz.func46 rfl rfl rfl hw ?_
  repeat' (first | (first | (apply GL.isCall; refine GL.call rfl rfl (fun w h => store_Make 4 64 (by omega) (by omega) (by omega) (by omega) (by decide) w _ h) (fun sb => ?_)) | (apply GL.isCall; refine GL.callH1 (storeP sb (St.new 4 64)) (vs := [.pointer (some ⟨sb, 0, none⟩), .int .i64 1]) rfl rfl (fun w h => wk_Take sb (St.new 4 64) 0 Wk.i0 (by omega) (0, 0) (by decide +kernel) w _ h) ?_) | (apply GL.isCall; refine GL.callH1 (storeP sb (St.take (St.new 4 64) 1).1) (vs := [.pointer (some ⟨sb, 0, none⟩), .int .i64 1]) rfl rfl (fun w h => wk_Take sb Wk.t1 1 Wk.i1 (by omega) (1, 0) (by decide +kernel) w _ h) ?_) | (apply GL.isCall; refine GL.callH1 (storeP sb (St.take Wk.t1 1).1) (vs := [.pointer (some ⟨sb, 0, none⟩), .int .i64 1]) rfl rfl (fun w h => wk_Take sb Wk.t2 2 Wk.i2 (by omega) (2, 0) (by decide +kernel) w _ h) ?_) | (apply GL.isCall; refine GL.callH (storeP sb (St.take Wk.t2 1).1) (vs := [.pointer (some ⟨sb, 0, none⟩), .int .i64 2, .int .i64 4]) rfl rfl (fun w h => wk_New sb w _ h) (fun rb => ?_)) | (apply GL.isCall; refine GL.callHH1 (recP rb sb Wk.m0 3) (storeP sb Wk.t3) (vs := [.pointer (some ⟨rb, 0, none⟩), .int .i64 2, .int .i64 1]) rfl rfl (fun w h => wk_Put rb sb Wk.m0 Wk.m1 3 Wk.o0 (by omega) 2 0 Wk.q1 Wk.t3 Wk.m1.t rfl rfl w _ h) ?_) | (apply GL.isCall; refine GL.callHH1 (recP rb sb Wk.m1 (3 + 1)) (storeP sb Wk.m1.t) (vs := [.pointer (some ⟨rb, 0, none⟩), .int .i64 0, .int .i64 1]) rfl rfl (fun w h => wk_Put rb sb Wk.m1 Wk.m2 (3 + 1) Wk.o1 (by omega) 0 0 Wk.q2 Wk.m1.t Wk.m2.t rfl rfl w _ h) ?_) | (apply GL.isCall; refine GL.callHH1 (recP rb sb Wk.m2 (3 + 1 + 1)) (storeP sb Wk.m2.t) (vs := [.pointer (some ⟨rb, 0, none⟩), .int .i64 1, .int .i64 1]) rfl rfl (fun w h => wk_Put rb sb Wk.m2 Wk.m3 (3 + 1 + 1) Wk.o2 (by omega) 1 0 Wk.q3 Wk.m2.t Wk.m3.t rfl rfl w _ h) ?_) | (apply GL.isCall; refine GL.callHH1 (recP rb sb Wk.m3 (3 + 1 + 1 + 1)) (storeP sb Wk.m3.t) (vs := [.pointer (some ⟨rb, 0, none⟩), .int .i64 1, .int .i64 1]) rfl rfl (fun w h => wk_Put rb sb Wk.m3 Wk.m3 (3 + 1 + 1 + 1) Wk.o3 (by omega) 1 18 Wk.p4 Wk.m3.t Wk.m3.t rfl rfl w _ h) ?_) | (apply GL.isCall; refine GL.callH1 (recP rb sb Wk.m3 (3 + 1 + 1 + 1 + 1)) (vs := [.pointer (some ⟨rb, 0, none⟩), .int .i64 1]) rfl rfl (fun w h => wk_Ahead rb sb w _ h) ?_) | (apply GL.isAny; refine GL.buildR (enc := encI1) [(9 : Int)] (parts := [(0, .const (.int .i64 9))]) rfl rfl rfl rfl rfl (fun l hl => match l, hl with | [_], _ => rfl) rfl (fun g0 => ?_)) | (apply GL.isCall; refine GL.callHH (recP rb sb Wk.m3 (3 + 1 + 1 + 1 + 1)) (storeP sb Wk.m3.t) (vs := [.pointer (some ⟨rb, 0, none⟩), .slice (some ⟨g0, 0, none⟩) 1 1]) rfl rfl (fun w h => wk_Tick rb sb Wk.m3 (3 + 1 + 1 + 1 + 1) (Wk.o3.more (by omega)) (by omega) _ [9] (by simp) [2, 0, 1] [2, 0] Wk.e5 (by rw [Wk.e10.1]; rfl) (by simp) w _ h) (fun u1 => ?_)) | (refine G.isRegion 8 ?_; refine G.nilOwn 3 encI1 1 ?_; apply G.region) | (apply GL.isCall; refine GL.callHH (recP rb sb (Rc.tick Wk.m3 [9]) (3 + 1 + 1 + 1 + 1 + 1 + 2 * [(2 : Int), 0, 1].length)) (storeP sb (Rc.tick Wk.m3 [9]).t) (vs := [.pointer (some ⟨rb, 0, none⟩), .slice none 0 0]) rfl rfl (fun w h => wk_Tick rb sb Wk.m4 14 (Wk.o4.more (by omega)) (by omega) _ [] (by simp) [1] [1] Wk.e6 (by rw [Wk.e10.2]; rfl) (by simp) w _ h) (fun u2 => ?_)) | (apply GL.isAny; refine GL.buildR (enc := encI1) [(2 : Int), 0] (parts := [(0, .const (.int .i64 2)), (1, .const (.int .i64 0))]) rfl rfl rfl rfl rfl (fun l hl => match l, hl with | [_, _], _ => rfl) rfl (fun g1 => ?_)) | (apply GL.isAny; refine GL.buildR (enc := encI1) [(1 : Int)] (parts := [(0, .const (.int .i64 1))]) rfl rfl rfl rfl rfl (fun l hl => match l, hl with | [_], _ => rfl) rfl (fun g2 => ?_)) | (apply GL.isCall; refine GL.call1 (vs := [u1, .slice (some ⟨g1, 0, none⟩) 2 2]) rfl rfl (fun w h => wk_Ints u1 _ [2, 0] (by simp) w _ h) ?_) | (apply GL.isCall; refine GL.call1 (vs := [u2, .slice (some ⟨g2, 0, none⟩) 1 1]) rfl rfl (fun w h => wk_Ints u2 _ [1] (by simp) w _ h) ?_) | (apply GL.isCall; refine GL.callH1 (recP rb sb (Rc.tick Wk.m4 []) (14 + 1 + 2 * [(1 : Int)].length)) (vs := [.pointer (some ⟨rb, 0, none⟩)]) rfl rfl (fun w h => wk_Freed rb sb w _ h) ?_) | (apply GL.isCall; refine GL.callH1 (recP rb sb Wk.m5 17) (vs := [.pointer (some ⟨rb, 0, none⟩)]) rfl rfl (fun w h => wk_Ticks rb sb w _ h) ?_) | (apply GL.isCall; refine GL.callH1 (recP rb sb Wk.m5 17) (vs := [.pointer (some ⟨rb, 0, none⟩)]) rfl rfl (fun w h => wk_Low rb sb w _ h) ?_)) | first | refine stp ?_ | (refine stpB ?_; intro _) | (refine spl ?_ ?_ <;> intro hc <;> ((try simp only [decide_eq_true_eq, decide_eq_false_iff_not, Bool.not_true, Bool.not_false, ne_eq, Classical.not_not, Int.not_lt, Int.not_le] at hc); (try (exfalso; first | omega | exact hc trivial | exact hc rfl)))))
  refine GE.resOne rfl (by (repeat (first | apply Res.nil | (apply Res.tmp; rfl) | (refine Res.cellA rfl rfl rfl ?_) | (refine Res.cell1 rfl rfl ?_)))) (fun w h => ?_)
  exact ⟨rfl, h.sub⟩
end Go.Proofs.YtipkgamiejenaaaGreat

/- The law ReclaimNone of chapter 25. -/
namespace Go.Proofs.YtipkgamiejenaaaGreat
open Go Go.RowKit Go.MapKept
set_option linter.unusedVariables false
set_option linter.unusedSectionVars false
set_option linter.unusedSimpArgs false
set_option maxRecDepth 100000
set_option maxHeartbeats 4000000
end Go.Proofs.YtipkgamiejenaaaGreat

/- Arguments of chapter 25's laws. -/
namespace Go.Proofs.YtipkgamiejenaaaGreat
open Go Go.RowKit Go.MapKept Go.ChangeShapes Go.WideShapes Go.Deep Go.Joins
set_option linter.unusedVariables false
set_option maxRecDepth 100000
section
variable {H : Type} {enc0 : TypeId × Value → H} {W : World} {sp : Nat → Bool} {held : Bool}
theorem el_intR (n : Nat) (cs : List Value) (x : DataW H × List MemPlace) (h : DataW.trod enc0 Tryz.prog W 0 sp held n 3 cs = some x) : ∃ a : Int, True ∧ cs = encI1 a := by
  obtain ⟨v1, c1, rfl, ⟨a1, rfl, _⟩, rfl⟩ := ckind_ok 5 _ [.int .i64] (by kernel_rfl) n cs x h
  exact ⟨a1, trivial, rfl⟩
end
end Go.Proofs.YtipkgamiejenaaaGreat

/- References 23, 24, 25: level, Lack, Spread, Paid, wiped. -/
namespace Go.Proofs.YtipkgamiejenaaaGreat
open Go Go.RowKit Go.MapKept
set_option linter.unusedVariables false
set_option linter.unusedSectionVars false
set_option linter.unusedSimpArgs false
set_option maxRecDepth 100000
set_option maxHeartbeats 2000000
theorem ref23_level (x : Int) (hx : 0 ≤ x) (w : World) (F : List HProp) (hw : holds w F) :
    Ct Tryz.prog 219 #[.int .i64 x] w fun e w' => e = .returned (.int .i64 x) ∧ holds w' F := by
  refine Ct.go (args := [.int .i64 x]) Tryz.func219 rfl rfl rfl hw ?_
  repeat' (first | refine stp ?_ | (refine stpB ?_; intro _) | (refine spl ?_ ?_ <;> intro hc <;> ((try simp only [decide_eq_true_eq, decide_eq_false_iff_not, Bool.not_true, Bool.not_false, ne_eq, Classical.not_not, Int.not_lt, Int.not_le] at hc); (try (exfalso; first | omega | exact hc trivial | exact hc rfl)))))
  all_goals (first | (exfalso; omega) | (refine GE.resOne rfl (by (repeat (first | apply Res.nil | (apply Res.tmp; rfl) | (refine Res.cellA rfl rfl rfl ?_) | (refine Res.cell1 rfl rfl ?_)))) (fun w h => ?_); exact ⟨rfl, h⟩))
theorem ref23_Lack (mk : Int) (hm : 0 ≤ mk ∧ mk ≤ 1048576) (v : Value) (l : List Int) (hl : ∀ x ∈ l, 0 ≤ x ∧ x ≤ 1048576) (hn : l.length ≤ 1000000) (w : World) (F : List HProp) [Reads F v encI1 1 l] (hw : holds w F) :
    Ct Tryz.prog 181 #[.int .i64 mk, v] w fun e w' => e = .returned (.int .i64 (Wm.lack mk l.getLast?)) ∧ holds w' F := by
  refine Ct.go (args := [.int .i64 mk, v]) Tryz.func181 rfl rfl rfl hw ?_
  by_cases h0 : l.length = 0
  · obtain rfl : l = [] := List.length_eq_zero_iff.1 h0
    repeat' (first | refine stp ?_ | (refine stpB ?_; intro _) | (refine spl ?_ ?_ <;> intro hc <;> ((try simp only [decide_eq_true_eq, decide_eq_false_iff_not, Bool.not_true, Bool.not_false, ne_eq, Classical.not_not, Int.not_lt, Int.not_le] at hc); (try (exfalso; first | omega | exact hc trivial | exact hc rfl)))))
    all_goals (first | (exfalso; simp at hc; done) | (refine GE.resOne rfl (by (repeat (first | apply Res.nil | (apply Res.tmp; rfl) | (refine Res.cellA rfl rfl rfl ?_) | (refine Res.cell1 rfl rfl ?_)))) (fun w h => ?_); exact ⟨rfl, h⟩))
  · obtain ⟨x, hx⟩ : ∃ x, x = l[l.length - 1] := ⟨_, rfl⟩
    have hxb := hl x (by rw [hx]; exact List.getElem_mem _)
    have hg : l.getLast? = some x := by rw [List.getLast?_eq_getElem?, List.getElem?_eq_getElem (by omega), hx]
    rw [hg]
    have hxo : l[l.length - 1]? = some x := by rw [List.getElem?_eq_getElem (by omega), hx]
    unfold Wm.lack
    dsimp only
    repeat' (first | (first | (apply GL.isCall; refine GL.call1 rfl rfl (fun w h => ref23_level x hxb.1 w _ h) ?_) | (apply GL.isAny; refine GL.run (by apply Runs.isIndexA; exact Runs.indexAddr (k := l.length - 1) (l := l) rfl rfl rfl (by omega) (by omega)) rfl ?_) | (apply GL.isAny; refine GL.run (v := .int .i64 x) (by apply Runs.isLoad; rw [hx]; exact Runs.loadRow0 rfl (by omega) rfl) rfl ?_)) | first | refine stp ?_ | (refine stpB ?_; intro _) | (refine spl ?_ ?_ <;> intro hc <;> ((try simp only [decide_eq_true_eq, decide_eq_false_iff_not, Bool.not_true, Bool.not_false, ne_eq, Classical.not_not, Int.not_lt, Int.not_le] at hc); (try (exfalso; first | omega | exact hc trivial | exact hc rfl)))))
    all_goals (first | (exfalso; simp at hc; omega) | (refine GE.resOne rfl (by (repeat (first | apply Res.nil | (apply Res.tmp; rfl) | (refine Res.cellA rfl rfl rfl ?_) | (refine Res.cell1 rfl rfl ?_)))) (fun w h => ?_); exact ⟨by first | rw [if_pos (by omega)] | rw [if_neg (by omega)], h⟩))
theorem ref24_Paid (a n : Int) (ha : 0 ≤ a ∧ a ≤ 9223372036854775807) (hn : 0 ≤ n ∧ n ≤ 9223372036854775807) (w : World) (F : List HProp) (hw : holds w F) :
    Ct Tryz.prog 121 #[.int .i64 a, .int .i64 n] w fun e w' => e = .returned (.int .i64 (max (a - n) 0)) ∧ holds w' F := by
  refine Ct.go (args := [.int .i64 a, .int .i64 n]) Tryz.func121 rfl rfl rfl hw ?_
  repeat' (first | refine stp ?_ | (refine stpB ?_; intro _) | (refine spl ?_ ?_ <;> intro hc <;> ((try simp only [decide_eq_true_eq, decide_eq_false_iff_not, Bool.not_true, Bool.not_false, ne_eq, Classical.not_not, Int.not_lt, Int.not_le] at hc); (try (exfalso; first | omega | exact hc trivial | exact hc rfl)))))
  all_goals (first | (exfalso; omega) | (refine GE.resOne rfl (by (repeat (first | apply Res.nil | (apply Res.tmp; rfl) | (refine Res.cellA rfl rfl rfl ?_) | (refine Res.cell1 rfl rfl ?_)))) (fun w h => ?_); exact ⟨by congr 2; omega, h⟩))
theorem ref24_Spread (k : Int) (hk : 0 ≤ k ∧ k ≤ 1048576) (v : Value) (p : List Int) (hp : p.length ≤ 64) (w : World) (F : List HProp) [Reads F v encI1 1 p] (hw : holds w F) :
    Ct Tryz.prog 119 #[.int .i64 k, v] w fun e w' => ∃ u, e = .returned u ∧ holds w' (owns 3 encI1 1 u (Tr.spread k p) :: F) := by
  refine Ct.go (args := [.int .i64 k, v]) Tryz.func119 rfl rfl rfl hw ?_
  have hmx : max k 0 = k := by omega
  repeat' (first | (first | (rw [hmx]) | (refine G.isRegion 3 ?_; refine G.nilOwn 3 encI1 1 ?_; apply G.region)) | first | refine stp ?_ | (refine stpB ?_; intro _) | (refine spl ?_ ?_ <;> intro hc <;> ((try simp only [decide_eq_true_eq, decide_eq_false_iff_not, Bool.not_true, Bool.not_false, ne_eq, Classical.not_not, Int.not_lt, Int.not_le] at hc); (try (exfalso; first | omega | exact hc trivial | exact hc rfl)))))
  refine G.loopK [0, 1] (Nat × Int × List Int × Value) (fun y => [(7, .int .i64 (y.1 : Nat)), (6, .int .i64 y.2.1), (5, y.2.2.2)]) (fun y => owns 3 encI1 1 y.2.2.2 y.2.2.1 :: F) (fun y => y.1 ≤ p.length ∧ y.2.2.1.length = y.1 ∧ y.2.2.1 ++ Tr.spread y.2.1 (p.drop y.1) = Tr.spread k p ∧ 0 ≤ y.2.1 ∧ y.2.1 ≤ 1048576) (fun y => p.length - y.1) ((0, k, [], .slice none 0 0)) (⟨Nat.zero_le _, rfl, rfl, hk.1, hk.2⟩) (by repeat (first | exact trivial | refine And.intro rfl ?_)) (fun w h => by (try dsimp only); first | exact h | exact h.sub | ((try simp only [List.take_zero, List.drop_zero, List.map_nil, List.nil_append, List.zipIdx_nil, List.filter_nil]); exact h.sub)) ?_
  rintro ⟨i, r, d, u⟩ ⟨hi, hd, he, hr0, hr1⟩
  dsimp only at hi hd he hr0 hr1 ⊢
  by_cases hlt : i < p.length
  · obtain ⟨x, hx⟩ : ∃ x, x = p[i] := ⟨_, rfl⟩
    have he2 : (d ++ [Tr.one r x]) ++ Tr.spread (r - Tr.one r x) (p.drop (i + 1)) = Tr.spread k p := by
      rw [← he, List.drop_eq_getElem_cons hlt, Tr.spread, List.append_assoc, hx]; rfl
    obtain ⟨o, ho⟩ : ∃ o, o = Tr.one r x := ⟨_, rfl⟩
    rw [← ho] at he2
    have ho2 : o = max (min x r) 0 := by rw [ho]; unfold Tr.one; omega
    have hI : (0 ≤ o ∧ o ≤ r) := by omega
    by_cases h1 : x < 0
    · obtain rfl : o = 0 := by omega
      repeat' (first | (first | (apply GL.isAny; refine GL.run (by apply Runs.isIndexA; exact Runs.indexAddr (k := i) (l := p) rfl rfl rfl (by omega) (by omega)) rfl ?_) | (apply GL.isAny; refine GL.run (v := .int .i64 x) (by apply Runs.isLoad; rw [hx]; exact Runs.loadRow0 rfl (by omega) rfl) rfl ?_) | (apply GL.isCall; refine GL.append1 ((0 : Int)) rfl rfl rfl rfl (by rfl) (by omega) (by omega) rfl (fun rr => ?_))) | first | refine stp ?_ | (refine stpB ?_; intro _) | (refine spl ?_ ?_ <;> intro hc <;> ((try simp only [decide_eq_true_eq, decide_eq_false_iff_not, Bool.not_true, Bool.not_false, ne_eq, Classical.not_not, Int.not_lt, Int.not_le] at hc); (try (exfalso; first | omega | exact hc trivial | exact hc rfl)))))
      all_goals (first | (exfalso; omega) | skip)
      refine GE.round (i + 1, r - 0, d ++ [0], _) ⟨hlt, by dsimp only; rw [List.length_append, List.length_singleton, hd], he2, by dsimp only; omega, by dsimp only; omega⟩ (by repeat (first | exact trivial | refine And.intro rfl ?_)) (fun w h => by (try dsimp only); exact h.sub) (by (try dsimp only); omega)
    · by_cases h2 : r < x
      · obtain rfl : o = r := by omega
        repeat' (first | (first | (apply GL.isAny; refine GL.run (by apply Runs.isIndexA; exact Runs.indexAddr (k := i) (l := p) rfl rfl rfl (by omega) (by omega)) rfl ?_) | (apply GL.isAny; refine GL.run (v := .int .i64 x) (by apply Runs.isLoad; rw [hx]; exact Runs.loadRow0 rfl (by omega) rfl) rfl ?_) | (apply GL.isCall; refine GL.append1 (o) rfl rfl rfl rfl (by rfl) (by omega) (by omega) rfl (fun rr => ?_))) | first | refine stp ?_ | (refine stpB ?_; intro _) | (refine spl ?_ ?_ <;> intro hc <;> ((try simp only [decide_eq_true_eq, decide_eq_false_iff_not, Bool.not_true, Bool.not_false, ne_eq, Classical.not_not, Int.not_lt, Int.not_le] at hc); (try (exfalso; first | omega | exact hc trivial | exact hc rfl)))))
        all_goals (first | (exfalso; omega) | skip)
        refine GE.round (i + 1, o - o, d ++ [o], _) ⟨hlt, by dsimp only; rw [List.length_append, List.length_singleton, hd], he2, by dsimp only; omega, by dsimp only; omega⟩ (by repeat (first | exact trivial | refine And.intro rfl ?_)) (fun w h => by (try dsimp only); exact h.sub) (by (try dsimp only); omega)
      · obtain rfl : o = x := by omega
        repeat' (first | (first | (apply GL.isAny; refine GL.run (by apply Runs.isIndexA; exact Runs.indexAddr (k := i) (l := p) rfl rfl rfl (by omega) (by omega)) rfl ?_) | (apply GL.isAny; refine GL.run (v := .int .i64 o) (by apply Runs.isLoad; rw [hx]; exact Runs.loadRow0 rfl (by omega) rfl) rfl ?_) | (apply GL.isCall; refine GL.append1 (o) rfl rfl rfl rfl (by rfl) (by omega) (by omega) rfl (fun rr => ?_))) | first | refine stp ?_ | (refine stpB ?_; intro _) | (refine spl ?_ ?_ <;> intro hc <;> ((try simp only [decide_eq_true_eq, decide_eq_false_iff_not, Bool.not_true, Bool.not_false, ne_eq, Classical.not_not, Int.not_lt, Int.not_le] at hc); (try (exfalso; first | omega | exact hc trivial | exact hc rfl)))))
        all_goals (first | (exfalso; omega) | skip)
        refine GE.round (i + 1, r - o, d ++ [o], _) ⟨hlt, by dsimp only; rw [List.length_append, List.length_singleton, hd], he2, by dsimp only; omega, by dsimp only; omega⟩ (by repeat (first | exact trivial | refine And.intro rfl ?_)) (fun w h => by (try dsimp only); exact h.sub) (by (try dsimp only); omega)
  · obtain rfl : i = p.length := by omega
    repeat' (first | refine stp ?_ | (refine stpB ?_; intro _) | (refine spl ?_ ?_ <;> intro hc <;> ((try simp only [decide_eq_true_eq, decide_eq_false_iff_not, Bool.not_true, Bool.not_false, ne_eq, Classical.not_not, Int.not_lt, Int.not_le] at hc); (try (exfalso; first | omega | exact hc trivial | exact hc rfl)))))
    all_goals (first | (exfalso; omega) | skip)
    refine GE.resOne rfl (by (repeat (first | apply Res.nil | (apply Res.tmp; rfl) | (refine Res.cellA rfl rfl rfl ?_) | (refine Res.cell1 rfl rfl ?_)))) (fun w h => ?_)
    rw [List.drop_length, Tr.spread, List.append_nil] at he
    rw [← he]
    exact ⟨_, rfl, h.sub⟩
theorem ref25_wiped (v : Value) (t : St.S) (K : Nat) (hI : St.Inv t K) (hK : K ≤ 900000) (i : Int) (w : World) (F : List HProp) (hw : holds w (refS v t :: F)) :
    Ct Tryz.prog 118 #[v, .int .i64 i] w fun e w' => ∃ v', e = .returned v' ∧ holds w' (refS v' (Rc.wipe t i) :: F) := by
  have hw0 := hw
  obtain ⟨q, ⟨rfl, hev⟩, h1⟩ := refS.open hw
  have hB := fun w (F : List HProp) h' => rf19_Begin (.agg #[.int .i64 (t.size : Nat), .slice q.ca t.ch.length q.cc, .slice q.xa t.tx.length q.xc, .slice q.wa t.wi.length q.wc, .slice q.sa t.stack.length q.sc, .int .i64 q.e0, .int .i64 q.e1, .int .i64 q.e2, .int .i64 q.e3]) t K hI (by omega) i w F h'
  obtain ⟨t1, ht1⟩ : ∃ t1, t1 = (St.start t i).1 := ⟨_, rfl⟩
  have hI1 := hI.start i
  have hes : Rc.wipe t i = (St.step t1 i (t1.size : Nat)).1 := by rw [ht1]; unfold Rc.wipe; rw [St.start_size]
  rw [← ht1] at hB hI1
  rw [hes]
  have hS := fun v w (F : List HProp) h' => rf19_Step v t1 (K + 1) hI1 (by omega) i (t1.size : Nat) w F h'
  refine Ct.go (args := [.agg #[.int .i64 (t.size : Nat), .slice q.ca t.ch.length q.cc, .slice q.xa t.tx.length q.xc, .slice q.wa t.wi.length q.wc, .slice q.sa t.stack.length q.sc, .int .i64 q.e0, .int .i64 q.e1, .int .i64 q.e2, .int .i64 q.e3], .int .i64 i]) Tryz.func118 rfl rfl rfl hw0 ?_
  repeat' (first | (first | (apply GL.isCall; refine GL.callH (refS (.agg #[.int .i64 (t.size : Nat), .slice q.ca t.ch.length q.cc, .slice q.xa t.tx.length q.xc, .slice q.wa t.wi.length q.wc, .slice q.sa t.stack.length q.sc, .int .i64 q.e0, .int .i64 q.e1, .int .i64 q.e2, .int .i64 q.e3]) t) (vs := [.agg #[.int .i64 (t.size : Nat), .slice q.ca t.ch.length q.cc, .slice q.xa t.tx.length q.xc, .slice q.wa t.wi.length q.wc, .slice q.sa t.stack.length q.sc, .int .i64 q.e0, .int .i64 q.e1, .int .i64 q.e2, .int .i64 q.e3], .int .i64 i]) rfl rfl (fun w h => hB w _ h) (fun v2 => ?_); refine GL.pure (fun wx hx => ?_); obtain ⟨q2, ⟨rfl, hev2⟩, _⟩ := refS.open hx; clear hx) | (apply GL.isCall; refine GL.callH (refS (.agg #[.int .i64 (t1.size : Nat), .slice q2.ca t1.ch.length q2.cc, .slice q2.xa t1.tx.length q2.xc, .slice q2.wa t1.wi.length q2.wc, .slice q2.sa t1.stack.length q2.sc, .int .i64 q2.e0, .int .i64 q2.e1, .int .i64 q2.e2, .int .i64 q2.e3]) t1) (vs := [.agg #[.int .i64 (t1.size : Nat), .slice q2.ca t1.ch.length q2.cc, .slice q2.xa t1.tx.length q2.xc, .slice q2.wa t1.wi.length q2.wc, .slice q2.sa t1.stack.length q2.sc, .int .i64 q2.e0, .int .i64 q2.e1, .int .i64 q2.e2, .int .i64 q2.e3], .int .i64 i, .int .i64 (t1.size : Nat)]) rfl rfl (fun w h => hS _ w _ h) (fun v3 => ?_); refine GL.pure (fun wx hx => ?_); obtain ⟨q3, ⟨rfl, hev3⟩, _⟩ := refS.open hx; clear hx)) | first | refine stp ?_ | (refine stpB ?_; intro _) | (refine spl ?_ ?_ <;> intro hc <;> ((try simp only [decide_eq_true_eq, decide_eq_false_iff_not, Bool.not_true, Bool.not_false, ne_eq, Classical.not_not, Int.not_lt, Int.not_le] at hc); (try (exfalso; first | omega | exact hc trivial | exact hc rfl)))))
  refine GE.resOne rfl (by (repeat (first | apply Res.nil | (apply Res.tmp; rfl) | (refine Res.cellA rfl rfl rfl ?_) | (refine Res.cell1 rfl rfl ?_)))) (fun w h => ?_)
  exact ⟨.agg #[.int .i64 ((St.step t1 i (t1.size : Nat)).1.size : Nat), .slice q3.ca (St.step t1 i (t1.size : Nat)).1.ch.length q3.cc, .slice q3.xa (St.step t1 i (t1.size : Nat)).1.tx.length q3.xc, .slice q3.wa (St.step t1 i (t1.size : Nat)).1.wi.length q3.wc, .slice q3.sa (St.step t1 i (t1.size : Nat)).1.stack.length q3.sc, .int .i64 q3.e0, .int .i64 q3.e1, .int .i64 q3.e2, .int .i64 q3.e3], rfl, h.sub⟩
end Go.Proofs.YtipkgamiejenaaaGreat

/- Reference 25: how its state lies; Lack, When, Plan. -/
namespace Go.Proofs.YtipkgamiejenaaaGreat
open Go Go.RowKit Go.MapKept
set_option linter.unusedVariables false
set_option linter.unusedSectionVars false
set_option linter.unusedSimpArgs false
set_option maxRecDepth 100000
set_option maxHeartbeats 2000000
structure RrM where
  q : RfM
  la : Option Addr
  lc : Nat
  wa : Option Addr
  wc : Nat
  va : Option Addr
  vc : Nat
/-- A reclaiming of the reference. -/
def refR (v : Value) (m : Rc.S) : HProp := fun f => ∃ x : RrM, v = .agg #[.int .i64 (m.t.size : Nat), .slice x.q.ca m.t.ch.length x.q.cc, .slice x.q.xa m.t.tx.length x.q.xc, .slice x.q.wa m.t.wi.length x.q.wc, .slice x.q.sa m.t.stack.length x.q.sc, .int .i64 x.q.e0, .int .i64 x.q.e1, .int .i64 x.q.e2, .int .i64 x.q.e3, .int .i64 m.q, .int .i64 m.low, .slice x.la m.line.length x.lc, .slice x.wa m.want.length x.wc, .slice x.va m.lv.length x.vc, .int .i64 m.fr] ∧ sep (refS (.agg #[.int .i64 (m.t.size : Nat), .slice x.q.ca m.t.ch.length x.q.cc, .slice x.q.xa m.t.tx.length x.q.xc, .slice x.q.wa m.t.wi.length x.q.wc, .slice x.q.sa m.t.stack.length x.q.sc, .int .i64 x.q.e0, .int .i64 x.q.e1, .int .i64 x.q.e2, .int .i64 x.q.e3]) m.t :: rows encI1 1 (.slice x.la m.line.length x.lc) m.line :: owns 3 encI1 1 (.slice x.wa m.want.length x.wc) m.want :: owns 3 encI1 1 (.slice x.va m.lv.length x.vc) m.lv :: []) f
theorem refR.open {w : World} {v : Value} {m : Rc.S} {F : List HProp} (h : holds w (refR v m :: F)) : ∃ x : RrM, v = .agg #[.int .i64 (m.t.size : Nat), .slice x.q.ca m.t.ch.length x.q.cc, .slice x.q.xa m.t.tx.length x.q.xc, .slice x.q.wa m.t.wi.length x.q.wc, .slice x.q.sa m.t.stack.length x.q.sc, .int .i64 x.q.e0, .int .i64 x.q.e1, .int .i64 x.q.e2, .int .i64 x.q.e3, .int .i64 m.q, .int .i64 m.low, .slice x.la m.line.length x.lc, .slice x.wa m.want.length x.wc, .slice x.va m.lv.length x.vc, .int .i64 m.fr] ∧ holds w (refS (.agg #[.int .i64 (m.t.size : Nat), .slice x.q.ca m.t.ch.length x.q.cc, .slice x.q.xa m.t.tx.length x.q.xc, .slice x.q.wa m.t.wi.length x.q.wc, .slice x.q.sa m.t.stack.length x.q.sc, .int .i64 x.q.e0, .int .i64 x.q.e1, .int .i64 x.q.e2, .int .i64 x.q.e3]) m.t :: rows encI1 1 (.slice x.la m.line.length x.lc) m.line :: owns 3 encI1 1 (.slice x.wa m.want.length x.wc) m.want :: owns 3 encI1 1 (.slice x.va m.lv.length x.vc) m.lv :: F) := by
  obtain ⟨x, h⟩ := holds.open_ex h
  obtain ⟨e, h⟩ := holds.open_pure h
  exact ⟨x, e, holds_sep.1 h⟩
theorem refR.shut {w : World} {m : Rc.S} (x : RrM) {F : List HProp} (h : holds w (refS (.agg #[.int .i64 (m.t.size : Nat), .slice x.q.ca m.t.ch.length x.q.cc, .slice x.q.xa m.t.tx.length x.q.xc, .slice x.q.wa m.t.wi.length x.q.wc, .slice x.q.sa m.t.stack.length x.q.sc, .int .i64 x.q.e0, .int .i64 x.q.e1, .int .i64 x.q.e2, .int .i64 x.q.e3]) m.t :: rows encI1 1 (.slice x.la m.line.length x.lc) m.line :: owns 3 encI1 1 (.slice x.wa m.want.length x.wc) m.want :: owns 3 encI1 1 (.slice x.va m.lv.length x.vc) m.lv :: F)) : holds w (refR (.agg #[.int .i64 (m.t.size : Nat), .slice x.q.ca m.t.ch.length x.q.cc, .slice x.q.xa m.t.tx.length x.q.xc, .slice x.q.wa m.t.wi.length x.q.wc, .slice x.q.sa m.t.stack.length x.q.sc, .int .i64 x.q.e0, .int .i64 x.q.e1, .int .i64 x.q.e2, .int .i64 x.q.e3, .int .i64 m.q, .int .i64 m.low, .slice x.la m.line.length x.lc, .slice x.wa m.want.length x.wc, .slice x.va m.lv.length x.vc, .int .i64 m.fr]) m :: F) :=
  (holds_sep (l := [_, _, _, _]).2 h).mono fun f hf => ⟨x, rfl, hf⟩
theorem ref04_PlaceR (v : Value) (l : List Int) (i : Int) (hl : l.length ≤ 1000000) (w : World) (F : List HProp) (hw : holds w (rows encI1 1 v l :: F)) :
    Ct Tryz.prog 123 #[v, .int .i64 i] w fun e w' => e = .returned (.int .i64 (placeOf l i)) ∧ holds w' (rows encI1 1 v l :: F) := by
  rw [rows_intsW] at hw ⊢
  exact ⟨ref04_Place w v l i F (by omega) hw⟩
variable (m : Rc.S) (K : Nat) (hO : Rc.Ok m K) (hK : K ≤ 900000)
include hO hK
end Go.Proofs.YtipkgamiejenaaaGreat

/- Reference 25: Put. -/
namespace Go.Proofs.YtipkgamiejenaaaGreat
open Go Go.RowKit Go.MapKept
set_option linter.unusedVariables false
set_option linter.unusedSectionVars false
set_option linter.unusedSimpArgs false
set_option maxRecDepth 100000
set_option maxHeartbeats 2000000
theorem rf19_DeferN (v : Value) (t : St.S) (i ow : Int) (hn : (St.give t i ow).2 ≠ 0) (w : World) (F : List HProp) (hw : holds w (refS v t :: F)) :
    Ct Tryz.prog 36 #[v, .int .i64 i, .int .i64 ow] w fun e w' => e = .returned (.tuple #[v, .int .i64 (St.give t i ow).2]) ∧ holds w' (refS v t :: F) := by
  obtain ⟨q, ⟨rfl, hev⟩, h1⟩ := refS.open hw
  unfold St.give at hn ⊢
  refine Ct.go (args := [.agg #[.int .i64 (t.size : Nat), .slice q.ca t.ch.length q.cc, .slice q.xa t.tx.length q.xc, .slice q.wa t.wi.length q.wc, .slice q.sa t.stack.length q.sc, .int .i64 q.e0, .int .i64 q.e1, .int .i64 q.e2, .int .i64 q.e3], .int .i64 i, .int .i64 ow]) Tryz.func36 rfl rfl rfl h1 ?_
  by_cases ho : t.out i
  · rw [if_pos ho]
    have hd : decide (0 ≤ i ∧ i < (t.ch.length : Int)) = false := decide_eq_false (by unfold St.S.out at ho; omega)
    repeat' (first | (first | (apply GL.isCall; refine GL.call1 rfl rfl (fun w h => rf19_Is (t.size : Nat) q.ca q.xa q.wa q.sa t.ch.length q.cc t.tx.length q.xc t.wi.length q.wc t.stack.length q.sc q.e0 q.e1 q.e2 q.e3 i w _ h) ?_) | (rw [hd])) | first | refine stp ?_ | (refine stpB ?_; intro _) | (refine spl ?_ ?_ <;> intro hc <;> ((try simp only [decide_eq_true_eq, decide_eq_false_iff_not, Bool.not_true, Bool.not_false, ne_eq, Classical.not_not, Int.not_lt, Int.not_le] at hc); (try (exfalso; first | omega | exact hc trivial | exact hc rfl)))))
    all_goals (first | (exfalso; simp at hc; done) | skip)
    all_goals (refine GE.resMany rfl (by (repeat (first | apply Res.nil | (apply Res.tmp; rfl) | (refine Res.cellA rfl rfl rfl ?_) | (refine Res.cell1 rfl rfl ?_)))) (fun w h => ?_); exact ⟨rfl, refS.shut hev h.sub⟩)
  rw [if_neg ho] at hn
  rw [if_neg ho]
  obtain ⟨k, rfl, hk⟩ := St.out_ex ho
  have hd : decide (0 ≤ (k : Int) ∧ (k : Int) < (t.ch.length : Int)) = true := decide_eq_true (by omega)
  rw [t.c_eq k hk] at hn ⊢
  by_cases hp : (t.ch[k]).phase ≠ 1 ∨ (t.ch[k]).owner ≠ ow
  · rw [if_pos hp]
    repeat' (first | (first | (apply GL.isCall; refine GL.call1 rfl rfl (fun w h => rf19_Is (t.size : Nat) q.ca q.xa q.wa q.sa t.ch.length q.cc t.tx.length q.xc t.wi.length q.wc t.stack.length q.sc q.e0 q.e1 q.e2 q.e3 (k : Int) w _ h) ?_) | (rw [hd])) | first | refine stp ?_ | (refine stpB ?_; intro _) | (refine spl ?_ ?_ <;> intro hc <;> ((try simp only [decide_eq_true_eq, decide_eq_false_iff_not, Bool.not_true, Bool.not_false, ne_eq, Classical.not_not, Int.not_lt, Int.not_le] at hc); (try (exfalso; first | omega | exact hc trivial | exact hc rfl)))))
    all_goals (first | (exfalso; simp at hc; done) | (exfalso; omega) | skip)
    all_goals (refine GE.resMany rfl (by (repeat (first | apply Res.nil | (apply Res.tmp; rfl) | (refine Res.cellA rfl rfl rfl ?_) | (refine Res.cell1 rfl rfl ?_)))) (fun w h => ?_); exact ⟨rfl, refS.shut hev h.sub⟩)
  · rw [if_neg hp] at hn; exact absurd rfl hn
variable (m : Rc.S) (K : Nat) (hO : Rc.Ok m K) (hK : K ≤ 900000)
include hO hK
theorem ref25_Put (v : Value) (i ow : Int) (hn : m.line.length ≤ 1000000) (w : World) (F : List HProp) (hw : holds w (refR v m :: F)) :
    Ct Tryz.prog 48 #[v, .int .i64 i, .int .i64 ow] w fun e w' => ∃ v', e = .returned (.tuple #[v', .int .i64 (Rc.put m i ow).2]) ∧ holds w' (refR v' (Rc.put m i ow).1 :: F) := by
  obtain ⟨x, rfl, h1⟩ := refR.open hw
  unfold Rc.put
  refine Ct.go (args := [.agg #[.int .i64 (m.t.size : Nat), .slice x.q.ca m.t.ch.length x.q.cc, .slice x.q.xa m.t.tx.length x.q.xc, .slice x.q.wa m.t.wi.length x.q.wc, .slice x.q.sa m.t.stack.length x.q.sc, .int .i64 x.q.e0, .int .i64 x.q.e1, .int .i64 x.q.e2, .int .i64 x.q.e3, .int .i64 m.q, .int .i64 m.low, .slice x.la m.line.length x.lc, .slice x.wa m.want.length x.wc, .slice x.va m.lv.length x.vc, .int .i64 m.fr], .int .i64 i, .int .i64 ow]) Tryz.func48 rfl rfl rfl h1 ?_
  by_cases h0 : (St.give m.t i ow).2 = 0
  · rw [if_pos h0]
    have hD := fun w (F : List HProp) h' => rf19_Defer (.agg #[.int .i64 (m.t.size : Nat), .slice x.q.ca m.t.ch.length x.q.cc, .slice x.q.xa m.t.tx.length x.q.xc, .slice x.q.wa m.t.wi.length x.q.wc, .slice x.q.sa m.t.stack.length x.q.sc, .int .i64 x.q.e0, .int .i64 x.q.e1, .int .i64 x.q.e2, .int .i64 x.q.e3]) m.t K hO.inv (by omega) i ow w F h'
    rw [h0] at hD
    obtain ⟨t1, ht1⟩ : ∃ t1, t1 = (St.give m.t i ow).1 := ⟨_, rfl⟩
    rw [← ht1] at hD ⊢
    repeat' (first | (first | (apply GL.isCall; refine GL.callH (refS (.agg #[.int .i64 (m.t.size : Nat), .slice x.q.ca m.t.ch.length x.q.cc, .slice x.q.xa m.t.tx.length x.q.xc, .slice x.q.wa m.t.wi.length x.q.wc, .slice x.q.sa m.t.stack.length x.q.sc, .int .i64 x.q.e0, .int .i64 x.q.e1, .int .i64 x.q.e2, .int .i64 x.q.e3]) m.t) (vs := [.agg #[.int .i64 (m.t.size : Nat), .slice x.q.ca m.t.ch.length x.q.cc, .slice x.q.xa m.t.tx.length x.q.xc, .slice x.q.wa m.t.wi.length x.q.wc, .slice x.q.sa m.t.stack.length x.q.sc, .int .i64 x.q.e0, .int .i64 x.q.e1, .int .i64 x.q.e2, .int .i64 x.q.e3], .int .i64 i, .int .i64 ow]) rfl rfl (fun w h => hD w _ h) (fun v2 => ?_); refine GL.pure (fun wx hx => ?_); obtain ⟨q2, ⟨rfl, hev2⟩, _⟩ := refS.open hx; clear hx) | (apply GL.isAny; refine GL.build0 encI1 1 rfl (fun u0 _ => ?_)) | (apply GL.isCall; refine GL.appendAny (ys := m.line) rfl rfl rfl rfl rfl rfl (by simp only [List.length_nil]; omega) (by simp only [List.length_nil]; omega) rfl (fun r1 _ => ?_); rw [List.nil_append]) | (apply GL.isCall; refine GL.append1 (i) rfl rfl rfl rfl (by rfl) (by omega) (by omega) rfl (fun r2 => ?_); refine GL.pure (fun wx hx => ?_); obtain ⟨r2a, r2c, rfl, _⟩ := (Reads.at_ (v := r2) (enc := encI1) (n := 1) (l := m.line ++ [i]) wx hx).form; clear hx)) | first | refine stp ?_ | (refine stpB ?_; intro _) | (refine spl ?_ ?_ <;> intro hc <;> ((try simp only [decide_eq_true_eq, decide_eq_false_iff_not, Bool.not_true, Bool.not_false, ne_eq, Classical.not_not, Int.not_lt, Int.not_le] at hc); (try (exfalso; first | omega | exact hc trivial | exact hc rfl)))))
    all_goals (first | (exfalso; simp at hc; done) | skip)
    refine GE.resMany rfl (by (repeat (first | apply Res.nil | (apply Res.tmp; rfl) | (refine Res.cellA rfl rfl rfl ?_) | (refine Res.cell1 rfl rfl ?_)))) (fun w h => ?_)
    refine ⟨.agg #[.int .i64 (t1.size : Nat), .slice q2.ca t1.ch.length q2.cc, .slice q2.xa t1.tx.length q2.xc, .slice q2.wa t1.wi.length q2.wc, .slice q2.sa t1.stack.length q2.sc, .int .i64 q2.e0, .int .i64 q2.e1, .int .i64 q2.e2, .int .i64 q2.e3, .int .i64 m.q, .int .i64 m.low, .slice r2a (m.line ++ [i]).length r2c, .slice x.wa m.want.length x.wc, .slice x.va m.lv.length x.vc, .int .i64 m.fr], rfl, ?_⟩
    have h2 : holds w (owns 3 encI1 1 (.slice r2a (m.line ++ [i]).length r2c) (m.line ++ [i]) :: refS (.agg #[.int .i64 (t1.size : Nat), .slice q2.ca t1.ch.length q2.cc, .slice q2.xa t1.tx.length q2.xc, .slice q2.wa t1.wi.length q2.wc, .slice q2.sa t1.stack.length q2.sc, .int .i64 q2.e0, .int .i64 q2.e1, .int .i64 q2.e2, .int .i64 q2.e3]) t1 :: owns 3 encI1 1 (.slice x.wa m.want.length x.wc) m.want :: owns 3 encI1 1 (.slice x.va m.lv.length x.vc) m.lv :: F) := h.sub
    have h3 : holds w (rows encI1 1 (.slice r2a (m.line ++ [i]).length r2c) (m.line ++ [i]) :: refS (.agg #[.int .i64 (t1.size : Nat), .slice q2.ca t1.ch.length q2.cc, .slice q2.xa t1.tx.length q2.xc, .slice q2.wa t1.wi.length q2.wc, .slice q2.sa t1.stack.length q2.sc, .int .i64 q2.e0, .int .i64 q2.e1, .int .i64 q2.e2, .int .i64 q2.e3]) t1 :: owns 3 encI1 1 (.slice x.wa m.want.length x.wc) m.want :: owns 3 encI1 1 (.slice x.va m.lv.length x.vc) m.lv :: F) := holds.shareRow h2
    have h4 : holds w (refS (.agg #[.int .i64 (t1.size : Nat), .slice q2.ca t1.ch.length q2.cc, .slice q2.xa t1.tx.length q2.xc, .slice q2.wa t1.wi.length q2.wc, .slice q2.sa t1.stack.length q2.sc, .int .i64 q2.e0, .int .i64 q2.e1, .int .i64 q2.e2, .int .i64 q2.e3]) t1 :: rows encI1 1 (.slice r2a (m.line ++ [i]).length r2c) (m.line ++ [i]) :: owns 3 encI1 1 (.slice x.wa m.want.length x.wc) m.want :: owns 3 encI1 1 (.slice x.va m.lv.length x.vc) m.lv :: F) := h3.sub
    exact refR.shut (m := { m with t := t1, line := m.line ++ [i] }) ⟨q2, r2a, r2c, x.wa, x.wc, x.va, x.vc⟩ h4
  · rw [if_neg h0]
    have hD := fun w (F : List HProp) h' => rf19_DeferN (.agg #[.int .i64 (m.t.size : Nat), .slice x.q.ca m.t.ch.length x.q.cc, .slice x.q.xa m.t.tx.length x.q.xc, .slice x.q.wa m.t.wi.length x.q.wc, .slice x.q.sa m.t.stack.length x.q.sc, .int .i64 x.q.e0, .int .i64 x.q.e1, .int .i64 x.q.e2, .int .i64 x.q.e3]) m.t i ow h0 w F h'
    obtain ⟨r, hr⟩ : ∃ r, r = (St.give m.t i ow).2 := ⟨_, rfl⟩
    rw [← hr] at hD h0 ⊢
    repeat' (first | ((apply GL.isCall; refine GL.callH1 (refS (.agg #[.int .i64 (m.t.size : Nat), .slice x.q.ca m.t.ch.length x.q.cc, .slice x.q.xa m.t.tx.length x.q.xc, .slice x.q.wa m.t.wi.length x.q.wc, .slice x.q.sa m.t.stack.length x.q.sc, .int .i64 x.q.e0, .int .i64 x.q.e1, .int .i64 x.q.e2, .int .i64 x.q.e3]) m.t) (vs := [.agg #[.int .i64 (m.t.size : Nat), .slice x.q.ca m.t.ch.length x.q.cc, .slice x.q.xa m.t.tx.length x.q.xc, .slice x.q.wa m.t.wi.length x.q.wc, .slice x.q.sa m.t.stack.length x.q.sc, .int .i64 x.q.e0, .int .i64 x.q.e1, .int .i64 x.q.e2, .int .i64 x.q.e3], .int .i64 i, .int .i64 ow]) rfl rfl (fun w h => hD w _ h) ?_)) | first | refine stp ?_ | (refine stpB ?_; intro _) | (refine spl ?_ ?_ <;> intro hc <;> ((try simp only [decide_eq_true_eq, decide_eq_false_iff_not, Bool.not_true, Bool.not_false, ne_eq, Classical.not_not, Int.not_lt, Int.not_le] at hc); (try (exfalso; first | omega | exact hc trivial | exact hc rfl)))))
    all_goals (first | (exfalso; exact h0 hc) | (exfalso; simp at hc; omega) | skip)
    refine GE.resMany rfl (by (repeat (first | apply Res.nil | (apply Res.tmp; rfl) | (refine Res.cellA rfl rfl rfl ?_) | (refine Res.cell1 rfl rfl ?_)))) (fun w h => ?_)
    exact ⟨.agg #[.int .i64 (m.t.size : Nat), .slice x.q.ca m.t.ch.length x.q.cc, .slice x.q.xa m.t.tx.length x.q.xc, .slice x.q.wa m.t.wi.length x.q.wc, .slice x.q.sa m.t.stack.length x.q.sc, .int .i64 x.q.e0, .int .i64 x.q.e1, .int .i64 x.q.e2, .int .i64 x.q.e3, .int .i64 m.q, .int .i64 m.low, .slice x.la m.line.length x.lc, .slice x.wa m.want.length x.wc, .slice x.va m.lv.length x.vc, .int .i64 m.fr], rfl, refR.shut x h.sub⟩
end Go.Proofs.YtipkgamiejenaaaGreat

/- Laws of walking: 'm[x] = y' among several assignments (the entry is laid first, its value stored then). -/
import Derived.Test.YtpkohkkkbnfigaaDoorGoTok
namespace Go.Proofs.YtpkohkkkbnfigaaDoor
open Go Go.RowKit Go.MapKept
set_option linter.unusedVariables false
set_option linter.unusedSectionVars false
set_option linter.unusedSimpArgs false

section
variable {β : Type} {P : Program} {n : Nat} {Q : Exit → Act → World → Prop} {env : Env} {F : List HProp} {ops : Array Oper} {rest : List Oper} {d : Tmp} {ty : TypeId} {pos : String} {aft : Array Edge}
/-- Block b is a map whose entries are m, but that the value at x, which bears the stamp s, is not yet there. -/
def imapHole (enc : β → Value) (b : Nat) (m : List (Int × β)) (x : Int) (s : Nat) : HProp := fun f =>
  ∃ es clock i, ((Stamped es clock ∧ (∃ e, es[i]? = some e ∧ e.born = s)) ∧ ∀ v, (es.modify i fun e => { e with val := enc v }).toList.map (fun e => (e.key, e.val)) = (alSet m x v).map (kv enc)) ∧ blk b (.map es clock) f
class HasHole {β : outParam Type} (F : List HProp) (b : Nat) (enc : outParam (β → Value)) (m : outParam (List (Int × β))) (x : outParam Int) (s : outParam Nat) (F' : outParam (List HProp)) : Prop where
  perm : F.Perm (imapHole enc b m x s :: F')
instance HasHole.here {b : Nat} {enc : β → Value} {m : List (Int × β)} {x : Int} {s : Nat} {F : List HProp} : HasHole (imapHole enc b m x s :: F) b enc m x s F := ⟨.refl _⟩
instance (priority := 500) HasHole.there {b : Nat} {enc : β → Value} {m : List (Int × β)} {x : Int} {s : Nat} {F F' : List HProp} {X : HProp} [h : HasHole F b enc m x s F'] : HasHole (X :: F) b enc m x s (X :: F') := ⟨(h.perm.cons X).trans (.swap _ _ _)⟩

theorem run_mapEntry_sl {t k e : TypeId} {z : Value} {w : World} {l : List HProp} {enc : β → Value} {b : Nat} {m : List (Int × β)} (ht : P.underlying t = some (.map k e)) (hk : P.underlying k = some (.int .i64)) (hz : ∀ w, (zeroValue e).run P w = .ok z w)
    (h : holds w (imap enc b m :: l)) (x : Int) :
    ∃ u s w', (Instr.mapEntry t (.map (some b)) (.int .i64 x)).run P w = .ok (.tuple #[u, .int .i64 (s : Nat)]) w' ∧ holds w' (imapHole enc b m x s :: l) := by
  obtain ⟨es, clock, h1, h2, h3⟩ := h.open_map
  have hf := findNow_int enc x es.toList m 0 h1
  have hck := run_checkKey (P := P) (w := w) (kt := k) (k := .int .i64 x) hk (by simp [IsKey]) false 9999
  have hlt : b < w.heap.size := (Array.getElem?_eq_some_iff.1 h3.get_blk).1
  cases hg : alFind x m 0 with
  | none =>
    obtain ⟨g1, g2, g3⟩ := alFind_none x m hg
    refine ⟨z, clock, { w with heap := w.heap.setIfInBounds b (.map (es.push { key := .int .i64 x, val := z, born := clock }) (clock + 1)) }, ?_, ?_⟩
    · simp [Instr.mapEntry, run_underlying ht, MapKept.run_getObj_map h3.get_blk, hck, Instr.findKey, run_underlying hk, hf, hg, hz, MapKept.run_setObj_map _ h3.get_blk, Result.andThen, goInt]
    · have h4 := h3.turn (w' := { w with heap := w.heap.setIfInBounds b (.map (es.push { key := .int .i64 x, val := z, born := clock }) (clock + 1)) })
        ⟨rfl, rfl, rfl, by simp, fun i _ hi => by simp at hi; simp [Ne.symm hi]⟩ (o' := .map (es.push { key := .int .i64 x, val := z, born := clock }) (clock + 1)) (by simp [hlt])
      refine h4.mono fun f hb => ⟨_, _, es.size, ⟨⟨stamped_push h2 fun y hy he => ?_, ⟨{ key := .int .i64 x, val := z, born := clock }, by simp, rfl⟩⟩, fun v => ?_⟩, hb⟩
      · have : (y.key, y.val) ∈ m.map (kv enc) := by rw [← h1]; exact List.mem_map.2 ⟨y, hy, rfl⟩
        obtain ⟨p, hp, hpe⟩ := List.mem_map.1 this
        simp only [kv, Prod.mk.injEq] at hpe
        rw [he] at hpe
        exact g1 p hp (by simpa using hpe.1)
      · rw [g2]
        have hm : es.size = m.length := size_of_kv h1
        apply List.ext_getElem?
        intro j
        simp only [List.getElem?_map, Array.getElem?_toList, Array.getElem?_modify, Array.getElem?_push, List.map_append, List.map_cons, List.map_nil, List.getElem?_append, List.length_map]
        have hj := congrArg (fun l => l[j]?) h1
        simp only [List.getElem?_map, Array.getElem?_toList] at hj
        by_cases hjs : j = es.size
        · subst hjs; simp [hm, kv]
        · by_cases hjl : j < es.size
          · rw [if_neg (fun h => hjs h.symm), if_neg hjs, if_pos (by omega)]; exact hj
          · have : es[j]? = none := by simp; omega
            rw [if_neg (fun h => hjs h.symm), if_neg hjs, this, if_neg (by omega)]
            have : j - m.length ≠ 0 := by omega
            cases hjm : j - m.length with
            | zero => omega
            | succ q => simp
  | some p =>
    obtain ⟨j, u⟩ := p
    obtain ⟨g1, g2, g3⟩ := alFind_spec x m j u hg
    have hes : ∃ e, es[j]? = some e ∧ e.key = .int .i64 x := by
      have hi := congrArg (fun l => l[j]?) h1
      simp only [List.getElem?_map, Array.getElem?_toList, g1, Option.map_some] at hi
      cases he : es[j]? with
      | none => simp [he] at hi
      | some e => simp [he, kv] at hi; exact ⟨e, rfl, hi.1⟩
    obtain ⟨e0, he0, hk0⟩ := hes
    refine ⟨enc u, e0.born, { w with heap := w.heap.setIfInBounds b (.map (es.modify j fun e => { e with key := .int .i64 x }) clock) }, ?_, ?_⟩
    · simp [Instr.mapEntry, run_underlying ht, MapKept.run_getObj_map h3.get_blk, hck, Instr.findKey, run_underlying hk, hf, hg, MapKept.run_setObj_map _ h3.get_blk, Result.andThen, Instr.keyThatStays, he0, hk0, Instr.sameBits, goInt]
    · have h4 := h3.turn (w' := { w with heap := w.heap.setIfInBounds b (.map (es.modify j fun e => { e with key := .int .i64 x }) clock) })
        ⟨rfl, rfl, rfl, by simp, fun i _ hi => by simp at hi; simp [Ne.symm hi]⟩ (o' := .map (es.modify j fun e => { e with key := .int .i64 x }) clock) (by simp [hlt])
      refine h4.mono fun f hb => ⟨_, _, j, ⟨⟨stamped_modify h2 j _ fun e he => ?_, ⟨{ e0 with key := .int .i64 x }, by rw [Array.getElem?_modify, if_pos rfl, he0]; rfl, rfl⟩⟩, fun v => ?_⟩, hb⟩
      · rw [he0] at he; cases he
        exact ⟨rfl, hk0.symm⟩
      · rw [g2]
        have e1 : ((es.modify j fun e => { e with key := .int .i64 x }).modify j fun e => { e with val := enc v }) = es.modify j fun e => { e with key := .int .i64 x, val := enc v } := by
          apply Array.ext_getElem?
          intro i
          simp only [Array.getElem?_modify]
          split <;> simp [Function.comp_def]
        rw [e1]
        exact kv_modify h1 g1 _ fun e => ⟨rfl, rfl⟩
theorem run_entryStore_sl {t : TypeId} {w : World} {l : List HProp} {enc : β → Value} {b : Nat} {m : List (Int × β)} {x : Int} {s : Nat} (h : holds w (imapHole enc b m x s :: l)) (v : β) :
    ∃ w', (Instr.entryStore t (.map (some b)) (.int .i64 s) (enc v)).run P w = .ok () w' ∧ holds w' (imap enc b (alSet m x v) :: l) := by
  obtain ⟨es, h⟩ := h.open_ex
  obtain ⟨clock, h⟩ := h.open_ex
  obtain ⟨i, h⟩ := h.open_ex
  obtain ⟨⟨⟨hst, e, he, hb⟩, hv⟩, h3⟩ := h.open_pure
  have hlt : b < w.heap.size := (Array.getElem?_eq_some_iff.1 h3.get_blk).1
  have hlti : i < es.size := (Array.getElem?_eq_some_iff.1 he).1
  have hei : es[i] = e := by rw [Array.getElem?_eq_getElem hlti] at he; exact Option.some.inj he
  have hfi : es.findIdx? (fun e => (e.born : Int) == (s : Int)) = some i := by
    rw [Array.findIdx?_eq_some_iff_getElem]
    refine ⟨hlti, by simp [hei, hb], fun j hj => ?_⟩
    obtain ⟨_, hnd, _⟩ := hst
    have hjlt : j < es.size := by omega
    simp only [beq_iff_eq, Bool.not_eq_true, beq_eq_false_iff_ne, ne_eq]
    intro hcon
    have h5 := (List.pairwise_iff_getElem.1 hnd) j i (by simpa using hjlt) (by simpa using hlti) hj
    simp [hei, hb] at h5
    omega
  refine ⟨{ w with heap := w.heap.setIfInBounds b (.map (es.modify i fun e => { e with val := enc v }) clock) }, ?_, ?_⟩
  · simp [Instr.entryStore, MapKept.run_getObj_map h3.get_blk, asInt, asIntOf, hfi, MapKept.run_setObj_map _ h3.get_blk, Result.andThen]
  · have h4 := h3.turn (w' := { w with heap := w.heap.setIfInBounds b (.map (es.modify i fun e => { e with val := enc v }) clock) })
      ⟨rfl, rfl, rfl, by simp, fun i _ hi => by simp at hi; simp [Ne.symm hi]⟩ (o' := .map (es.modify i fun e => { e with val := enc v }) clock) (by simp [hlt])
    exact h4.mkMap (hv v) (stamped_modify hst i _ fun e _ => ⟨rfl, rfl⟩)
theorem GL.mapEntry {t k e : TypeId} {x y : Operand} {b size bytes : Nat} {i : Int} {z : Value} {enc : β → Value} {m : List (Int × β)} {F' : List HProp} [hm : MapT P t k e] [hk : IntT P k .i64] [hz : ZeroT P e z size bytes] (hx : opnd env x = some (.map (some b))) (hy : opnd env y = some (.int .i64 i)) [hr : HasMap F b enc m F'] (hd : Nat.blt d n = true)
    (h : ∀ (u : Value) (s : Nat), GL P n ops Q rest ((d, .tuple #[u, .int .i64 s]) :: env) (imapHole enc b m i s :: F')) : GL P n ops Q (⟨some d, .mapEntry t x y, ty, pos, aft, none⟩ :: rest) env F := .mk fun a w hf hw => by
  refine wpList_plain rfl fun K hK => ?_
  obtain ⟨iz, g1, g2, _⟩ := hz.ok
  have hzr : ∀ w, (zeroValue e).run P w = .ok z w := fun w => by simp [zeroValue, typeInfo, g1, g2, Result.andThen]
  obtain ⟨u, s, w', hrun, hh⟩ := run_mapEntry_sl (P := P) hm.ok hk.ok hzr (hw.perm hr.perm) i
  unfold Oper.wp
  simp only [execOp, hf.eval hx, hf.eval hy, Sem.run_bind, Sem.run_pure, hrun, Result.andThen_ok]
  exact hK _ _ (h u s _ _ (hf.put hd _) hh)
theorem GL.entryStore {t : TypeId} {x y u : Operand} {b s : Nat} {i : Int} {val : Value} {enc : β → Value} {m : List (Int × β)} {F' : List HProp} (v : β) (hx : opnd env x = some (.map (some b))) (hy : opnd env y = some (.int .i64 (s : Nat))) (hu : opnd env u = some val) [hr : HasHole F b enc m i s F'] (hv : val = enc v)
    (h : GL P n ops Q rest env (imap enc b (alSet m i v) :: F')) : GL P n ops Q (⟨none, .entryStore t x y u, ty, pos, aft, none⟩ :: rest) env F := .mk fun a w hf hw => by
  refine wpList_plain rfl fun K hK => ?_
  obtain ⟨w', hrun, hh⟩ := run_entryStore_sl (P := P) (t := t) (hw.perm hr.perm) v
  unfold Oper.wp
  simp only [execOp, hf.eval hx, hf.eval hy, hf.eval hu, hv, Sem.run_bind, Sem.run_pure, hrun, Result.andThen_ok]
  exact hK _ _ (h _ _ hf hh)
/-- 'm[x]', told ahead. -/
theorem Runs.lookupS {t k e : TypeId} {x y : Operand} {b size bytes : Nat} {i : Int} {z : Value} {enc : β → Value} {m : List (Int × β)} {F' : List HProp} {u : β} [hm : MapT P t k e] [hk : IntT P k .i64] [hz : ZeroT P e z size bytes] (hx : opnd env x = some (.map (some b))) (hy : opnd env y = some (.int .i64 i)) [hr : HasMap F b enc m F'] (h : alGet m i = some u) :
    Runs P n env F (.lookup t x y false) (enc u) := by
  have := Runs.lookup (P := P) (n := n) (env := env) (F := F) (t := t) (x := x) (y := y) (b := b) (i := i) hx hy
  rw [h] at this
  exact this
theorem Runs.lookupN {t k e : TypeId} {x y : Operand} {b size bytes : Nat} {i : Int} {z : Value} {enc : β → Value} {m : List (Int × β)} {F' : List HProp} [hm : MapT P t k e] [hk : IntT P k .i64] [hz : ZeroT P e z size bytes] (hx : opnd env x = some (.map (some b))) (hy : opnd env y = some (.int .i64 i)) [hr : HasMap F b enc m F'] (h : alGet m i = none) :
    Runs P n env F (.lookup t x y false) z := by
  have := Runs.lookup (P := P) (n := n) (env := env) (F := F) (t := t) (x := x) (y := y) (b := b) (i := i) hx hy
  rw [h] at this
  exact this
def encI (x : Int) : Value := .int .i64 x
theorem Runs.lookupI {t k e : TypeId} {x y : Operand} {b size bytes : Nat} {i : Int} {m : List (Int × Int)} {F' : List HProp} [hm : MapT P t k e] [hk : IntT P k .i64] [hz : ZeroT P e (.int .i64 0) size bytes] (hx : opnd env x = some (.map (some b))) (hy : opnd env y = some (.int .i64 i)) [hr : HasMap F b encI m F'] :
    Runs P n env F (.lookup t x y false) (.int .i64 ((alGet m i).getD 0)) := by
  have := Runs.lookup (P := P) (n := n) (env := env) (F := F) (t := t) (x := x) (y := y) (b := b) (i := i) hx hy
  cases h : alGet m i with
  | none => rw [h] at this; exact this
  | some u => rw [h] at this; exact this
end
end Go.Proofs.YtpkohkkkbnfigaaDoor

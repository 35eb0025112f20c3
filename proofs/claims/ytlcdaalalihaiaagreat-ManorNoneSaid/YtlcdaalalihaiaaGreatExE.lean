import Derived.Test.YtlcdaalalihaiaaGreatMg1
/- Running code by calculation: maps, append, copy, comparisons with nil, calls. -/
namespace Go.Proofs.YtlcdaalalihaiaaGreat
open Go Go.RowKit
set_option linter.unusedVariables false
set_option linter.unusedSectionVars false
set_option linter.unusedSimpArgs false
set_option maxRecDepth 100000
namespace Ex
variable [GN]
section
variable {θ : Nat → Value} {ρ : Ren} {P : Program} {w0 : Fm} {w : World} {h : Tr SO} {nx : Nat}
/-! ### Append -/
/-- 'append(x, y...)'. -/
noncomputable def rapGrow (h : Tr SO) (nx k n m : Nat) (el : TypeId) (sz s : Nat) (news olds : List Value) : Option SN :=
  some (.val (.slice (some ⟨nx, 0, none⟩) (Nat.add n m) (Nat.add n m)) ((bif Nat.beq sz 0 then h else h.upd 40 k none).put nx (.cells (.of (olds ++ news)) el true s)) (Nat.add nx 1))
noncomputable def rapK (h : Tr SO) (nx k o n c m : Nat) (el : TypeId) (i : TypeInfo) (news : List Value) (so : SO) : Option SN := match so with
  | .cells g T true sz => bif Nat.ble (Nat.add n m) c then
      (bif Nat.ble (Nat.add (Nat.add o (Nat.mul n i.size)) (Nat.mul m i.size)) g.len then some (.val (.slice (some ⟨k, o, none⟩) (Nat.add n m) c) (h.put k (.cells (CL.write news g (Nat.add o (Nat.mul n i.size))) T true sz)) nx) else none)
    else bif Nat.ble n 1048576 && (Nat.beq sz 0 || Nat.beq sz i.size) && Nat.beq T el then on1 (g.read (Nat.mul n i.size) o) (rapGrow h nx k n m el sz i.size news) else none
  | _ => none
noncomputable def rapX (h : Tr SO) (nx m : Nat) (el : TypeId) (i : TypeInfo) (news : List Value) (x : Value) : Option SN := match x with
  | .slice none _ _ => some (.val (.slice (some ⟨nx, 0, none⟩) m m) (h.put nx (.cells (.of news) el true i.size)) (Nat.add nx 1))
  | .slice (some ⟨k, o, none⟩) n c => on1 (h.get k) (rapK h nx k o n c m el i news)
  | _ => none
noncomputable def rapN (h : Tr SO) (nx m : Nat) (el : TypeId) (i : TypeInfo) (z : Value) (x : Value) (news : List Value) : Option SN :=
  bif Nat.blt 0 i.size && Nat.ble i.bytes 1048576 && Nat.blt 0 m && Nat.ble m 1048576 && Nat.beq z.cells.size i.size && news.all Value.oneCell' then rapX h nx m el i news x else none
noncomputable def rapJ (h : Tr SO) (nx q m : Nat) (el : TypeId) (x : Value) (i : TypeInfo) (z : Value) (so : SO) : Option SN := match so with
  | .cells d _ _ _ => on1 (d.read (Nat.mul m i.size) q) (rapN h nx m el i z x)
  | _ => none
noncomputable def rapD (P : Program) (h : Tr SO) (nx j q m : Nat) (x : Value) (d : TypeDesc) : Option SN := match d with
  | .slice el => on2 (P.info? el) (zeroOf P el) fun i z => on1 (h.get j) (rapJ h nx q m el x i z)
  | _ => none
noncomputable def rappend (P : Program) (h : Tr SO) (nx : Nat) (t : TypeId) (x y : Value) : Option SN := match y with
  | .slice (some ⟨j, q, none⟩) m _ => on1 (P.underlying t) (rapD P h nx j q m x)
  | _ => none
/-- What grows is a block of its own. -/
theorem grow_ok (hh : HT θ w0 ρ h nx w) {el : TypeId} {i : TypeInfo} {z : Value} (hz : z.cells.size = i.size) (h0 : 0 < i.size) {c c' : List Value} {n : Nat} (hc : Rl θ ρ c c') (hl : c.length = n * i.size) (G : Nat) (hG : n ≤ G) {h1 : Tr SO} (hsub : ∀ k o, h1.get k = some o → h.get k = some o) :
    ∃ ρ' v', ρ.le ρ' ∧ Rv θ ρ' (.slice (some ⟨nx, 0, none⟩) n n) v' ∧ HT θ w0 ρ' (h1.put nx (.cells (.of c) el true i.size)) (nx + 1) (w.drew.alloc (.cells (c'.toArray ++ Builtin.zeroCells z.cells (G - n)) el (0, 0))) ∧ v' = .slice (some ⟨w.heap.size, 0, none⟩) n G := by
  have hh1 : HT θ w0 ρ h1 nx w.drew := (hh.sub hsub).drew
  have hcl := hc.1
  have hsz : (c'.toArray ++ Builtin.zeroCells z.cells (G - n)).size = G * i.size := by
    simp [Builtin.zeroCells, hz]
    rw [← hcl, hl, ← Nat.add_mul]; congr 1; omega
  obtain ⟨ρ', k1, k2, k3⟩ := hh1.newRow (some (i.size, G * i.size)) (c := .of c) (cur := c'.toArray ++ Builtin.zeroCells z.cells (G - n)) el (by rw [hsz]; show c.length ≤ _; rw [hl]; exact Nat.mul_le_mul_right _ hG) i.size
    (fun sz' z' e => by cases e; exact ⟨rfl, h0, by rw [hsz]; exact Nat.le_refl _⟩) fun j x hx => by
      obtain ⟨y, e1, e2⟩ := hc.at_ (CL.get_of hx)
      refine ⟨y, ?_, e2⟩
      have hj := (List.getElem?_eq_some_iff.1 e1).1
      rw [Array.getElem?_append, if_pos (by simpa using hj)]; simpa using e1
  exact ⟨ρ', _, k1, .sl k2 (by simpa using hG) ⟨.inr ⟨i.size, G * i.size, rfl, hG, by simp⟩, .inr rfl⟩, k3, rfl⟩
theorem small_bytes {a b : Nat} (ha : a ≤ 2097152) (hb : b ≤ 1048576) : a * b ≤ 140737488355328 := by
  have := Nat.mul_le_mul ha hb; omega
theorem rappend_ok (hh : HT θ w0 ρ h nx w) {t ty : TypeId} {x x' y y' : Value} (hx : Rv θ ρ x x') (hy : Rv θ ρ y y') {r : SN} (hs : rappend P h nx t x y = some r) : ∃ v h' nx', r = .val v h' nx' ∧ Val θ w0 ρ v h' nx' ((Builtin.append_ #[t, t] ty #[x', y']).run P w) := by
  unfold rappend at hs
  split at hs
  · rename_i j q m mc
    obtain ⟨pj, mc', aj, hpj, hnj, hcapj, rfl⟩ := hy.toSl
    obtain ⟨dd, hu, hs⟩ := on1_ok hs
    unfold rapD at hs
    split at hs
    · rename_i el
      obtain ⟨i, z, hi, hz0, hs⟩ := on2_ok hs
      obtain ⟨so, hd, hs⟩ := on1_ok hs
      unfold rapJ at hs
      split at hs
      · rename_i d T2 r2 sz2
        obtain ⟨news, hnw, hs⟩ := on1_ok hs
        obtain ⟨⟨i', hi', hz⟩, hkz⟩ := zeroOf_ok hz0
        rw [hi] at hi'; cases hi'
        unfold rapN at hs
        cases hc : (Nat.blt 0 i.size && Nat.ble i.bytes 1048576 && Nat.blt 0 m && Nat.ble m 1048576 && Nat.beq z.cells.size i.size && news.all Value.oneCell') with
        | false => rw [hc] at hs; cases hs
        | true =>
          rw [hc] at hs
          simp only [Bool.and_eq_true, cond_true] at hc hs
          obtain ⟨⟨⟨⟨⟨a1, a2⟩, a4⟩, a5⟩, a6⟩, a7⟩ := hc
          have a1 : 0 < i.size := by simpa [Nat.blt_eq] using a1
          have a2 := Nat.le_of_ble_eq_true a2
          have a4 : 0 < m := by simpa [Nat.blt_eq] using a4
          have a5 := Nat.le_of_ble_eq_true a5
          have a6 := Nat.eq_of_beq_eq_true a6
          -- what is appended
          obtain ⟨ys, b1, b2, b3⟩ := hh.cells hd hpj q (m * i.size) hnw
          have haj : aj = ⟨pj.b, pj.s + q, none⟩ := by
            rcases hcapj.2 with e | e
            · omega
            · exact e
          subst haj
          have hnews : ∀ j v, ys[j]? = some v → w.cell? ((⟨pj.b, pj.s + q, none⟩ : Addr).add j) = some v := fun j v hv => by rw [addr_plus]; exact b3 j v hv
          have hones := Rl.ones b2 a7
          have hlen : news.length = m * i.size := by rw [b2.1, b1]
          unfold rapX at hs
          split at hs
          · rename_i n0 c0
            cases hs
            obtain ⟨rfl, rfl, rfl⟩ := hx.toS0
            have hrun := run_append_nil (P := P) w t ty el i z hu hi hz ⟨pj.b, pj.s + q, none⟩ m mc' ys b1 hnews a4 (by omega) (by have := small_bytes (a := m) (by omega) a2; omega)
            obtain ⟨ρ', v', k1, k2, k3, rfl⟩ := grow_ok (w := w) hh (el := el) a6 a1 b2 hlen (grownCap w m 0 el) (grownCap_ge w m 0 el) (h1 := h) (fun _ _ e => e)
            exact ⟨_, _, _, rfl, ρ', _, _, k1, k2, k3, hrun⟩
          · rename_i k o n c _ _ _ _
            obtain ⟨p, c', a, hp, hn, hcap, rfl⟩ := hx.toSl
            obtain ⟨sk, hk, hs⟩ := on1_ok hs
            unfold rapK at hs
            split at hs
            · rename_i g T sz
              cases hroom : Nat.ble (Nat.add n m) c with
              | true =>
                rw [hroom] at hs
                have hroom : n + m ≤ c := Nat.le_of_ble_eq_true hroom
                simp only [cond_true] at hs
                cases hfit : Nat.ble (Nat.add (Nat.add o (Nat.mul n i.size)) (Nat.mul m i.size)) g.len with
                | false => rw [hfit] at hs; cases hs
                | true =>
                  rw [hfit] at hs
                  cases hs
                  have hfit : o + n * i.size + m * i.size ≤ g.len := Nat.le_of_ble_eq_true hfit
                  have hcc : c ≤ c' := by rcases hcap.1 with e | ⟨_, _, _, e, _⟩ <;> omega
                  have ha : a = ⟨p.b, p.s + o, none⟩ := by
                    rcases hcap.2 with e | e
                    · omega
                    · exact e
                  subst ha
                  obtain ⟨w', g1, g2⟩ := hh.write (P := P) (o := o + n * i.size) hk hp b2 hones (by rw [hlen]; exact hfit)
                  refine ⟨_, _, _, rfl, ρ, .slice (some ⟨p.b, p.s + o, none⟩) (n + m) c', w', .refl ρ, .sl hp (by show n + m ≤ c'; omega) hcap, g2, ?_⟩
                  have hf := run_firstCells_some (P := P) w i.size m ⟨pj.b, pj.s + q, none⟩ m mc' ys b1 hnews
                  have hr2 : n + m ≤ c' := by omega
                  have g1' : (storeCells ⟨p.b, p.s + o + n * i.size, none⟩ ys).run P w = .ok () w' := by rw [Nat.add_assoc]; exact g1
                  simp [Builtin.append_, run_underlying hu, sizeOf, typeInfo, hi, Builtin.lenOf, hr2, hf, addr_plus, g1']
              | false =>
                rw [hroom] at hs
                simp only [cond_false] at hs
                cases hfit : (Nat.ble n 1048576 && (Nat.beq sz 0 || Nat.beq sz i.size) && Nat.beq T el) with
                | false => rw [hfit] at hs; cases hs
                | true =>
                  rw [hfit] at hs
                  simp only [Bool.and_eq_true, cond_true] at hfit hs
                  obtain ⟨olds, hol, hs⟩ := on1_ok hs
                  cases hs
                  obtain ⟨⟨f2, f3⟩, f4⟩ := hfit
                  have f2 := Nat.le_of_ble_eq_true f2
                  have f4 := Nat.eq_of_beq_eq_true f4
                  subst f4
                  obtain ⟨xs, d1, d2, d3⟩ := hh.cells hk hp o (n * i.size) hol
                  obtain ⟨hol1, hol2, hol3⟩ := CL.read_ok (n * i.size) o hol
                  have hall := Rl.append d2 b2
                  have hlen2 : (olds ++ news).length = (n + m) * i.size := by rw [List.length_append, d2.1, d1, hlen, Nat.add_mul]
                  have hbytes : (n + m) * i.bytes ≤ 140737488355328 := small_bytes (by omega) a2
                  have hsubk : ∀ j' o', (bif Nat.beq sz 0 then h else h.upd 40 k none).get j' = some o' → h.get j' = some o' := fun j' o' e => by
                    cases hb : Nat.beq sz 0 with
                    | true => rw [hb] at e; exact e
                    | false =>
                      rw [hb] at e
                      have e : (h.upd 40 k none).get j' = some o' := e
                      rcases Tr.get_upd _ _ _ _ _ _ e with ⟨_, e3⟩ | ⟨_, e4⟩
                      · cases e3
                      · exact e4
                  by_cases hbig : c' < n + m
                  · -- a new block
                    have hxs : ∀ j v, xs[j]? = some v → w.cell? (a.add j) = some v := fun j v hv => by
                      by_cases hn0 : n = 0
                      · subst hn0; simp at d1; subst d1; simp at hv
                      · have ha : a = ⟨p.b, p.s + o, none⟩ := by
                          rcases hcap.2 with e | e
                          · omega
                          · exact e
                        subst ha
                        rw [addr_plus]; exact d3 j v hv
                    have hrun := run_append_grow (P := P) w t ty T i z hu hi hz a n c' xs d1 hxs ⟨pj.b, pj.s + q, none⟩ m mc' ys b1 hnews hbig (by omega) (growslice_fits hbig hbytes)
                    obtain ⟨ρ', v', k1, k2, k3, rfl⟩ := grow_ok (w := w) hh (el := T) a6 a1 hall hlen2 (grownCap w (n + m) c' T) (grownCap_ge w (n + m) c' T) (h1 := bif Nat.beq sz 0 then h else h.upd 40 k none) hsubk
                    have harr : (xs ++ ys).toArray = xs.toArray ++ ys.toArray := by simp
                    rw [harr] at k3
                    exact ⟨_, _, _, rfl, ρ', _, _, k1, k2, k3, hrun⟩
                  · -- room that was not known
                    rcases hcap.1 with e | ⟨sz', zz, e1, e2, e3⟩
                    · subst e
                      have e2 : Nat.ble (n + m) c' = true := Nat.ble_eq_true_of_le (by omega)
                      have e3 : Nat.ble (n + m) c' = false := hroom
                      rw [e2] at e3; cases e3
                    · have ha : a = ⟨p.b, p.s + o, none⟩ := by
                        rcases hcap.2 with e | e
                        · omega
                        · exact e
                      subst ha
                      obtain ⟨p', o', j1, j2, j3, j4⟩ := hh.obj k _ hk
                      rw [hp] at j1; cases j1
                      cases o' with
                      | cells cur T' fz =>
                        obtain ⟨rfl, rfl, ⟨j5, j6⟩, j7⟩ := j3
                        obtain ⟨rfl, j8, j9⟩ := j6 sz' zz e1
                        have hsz : sz' = i.size := by
                          rcases (Bool.or_eq_true _ _).mp f3 with e | e
                          · have := Nat.eq_of_beq_eq_true e; omega
                          · exact Nat.eq_of_beq_eq_true e
                        subst hsz
                        have hb0 : Nat.beq i.size 0 = false := Bool.eq_false_iff.2 fun e => by have := Nat.eq_of_beq_eq_true e; omega
                        rw [hb0]
                        simp only [cond_false]
                        have hle : (n + m) * i.size ≤ c' * i.size := Nat.mul_le_mul_right _ (by omega)
                        rw [Nat.add_mul] at hle
                        have hst := run_storeCells_at P p.b (p.s + o + n * i.size) T' ys 0 cur w j2 (by rw [b1]; omega) hones
                        rw [Nat.add_zero] at hst
                        have hf := run_firstCells_some (P := P) w i.size m ⟨pj.b, pj.s + q, none⟩ m mc' ys b1 hnews
                        have hr2 : n + m ≤ c' := by omega
                        obtain ⟨ρ', k1, k2, k3⟩ := hh.move hk rfl rfl hp ⟨p.b, p.s + o, some (i.size, zz - o)⟩ rfl
                          (o1 := .cells (.of (olds ++ news)) T' true i.size)
                          (o1' := .cells (cur.toList.take (p.s + o + n * i.size) ++ ys ++ cur.toList.drop (p.s + o + n * i.size + ys.length)).toArray T' (0, 0))
                          (fun ρ' hρ => by
                            refine ⟨rfl, rfl, ⟨?_, fun sz3 z3 e4 => ?_⟩, fun ix x hx => ?_⟩
                            · show p.s + o + (olds ++ news).length ≤ _; rw [hlen2, Nat.add_mul]; simp; omega
                            · cases e4; refine ⟨rfl, j8, ?_⟩; simp; omega
                            · have hx := CL.get_of hx
                              have hd1 := d2.1
                              rw [List.getElem?_append] at hx
                              split at hx
                              · rename_i hix
                                obtain ⟨y, u1, u2⟩ := j7 _ _ (hol3 ix x hx)
                                rw [hd1, d1] at hix
                                refine ⟨y, ?_, u2.mono hρ⟩
                                dsimp only
                                rw [List.getElem?_toArray, List.append_assoc, List.getElem?_append, if_pos (by simp; omega), List.getElem?_take, if_pos (by omega), Array.getElem?_toList]
                                rw [← u1]; congr 1; omega
                              · rename_i hix
                                rw [hd1, d1] at hix
                                obtain ⟨y, u1, u2⟩ := b2.at_ hx
                                refine ⟨y, ?_, u2.mono hρ⟩
                                have hlt := (List.getElem?_eq_some_iff.1 u1).1
                                rw [hd1, d1] at u1 hlt
                                dsimp only
                                rw [List.getElem?_toArray, List.append_assoc, List.getElem?_append, if_neg (by simp; omega), List.getElem?_append, if_pos (by simp; omega)]
                                rw [← u1]; congr 1; simp; omega)
                          (setRow_heap' _ _ _ _ _ _ j2) rfl rfl rfl
                        refine ⟨_, _, _, rfl, ρ', .slice (some ⟨p.b, p.s + o, none⟩) (n + m) c', _, k1, .sl k2 (by show n + m ≤ c'; omega) ⟨.inr ⟨i.size, zz - o, rfl, by show n + m ≤ c'; omega, by simp; omega⟩, .inr (by simp)⟩, k3, ?_⟩
                        simp [Builtin.append_, run_underlying hu, sizeOf, typeInfo, hi, Builtin.lenOf, hr2, hf, addr_plus, hst]
                      | _ => exact j3.elim
            · cases hs
          · cases hs
      · cases hs
    · cases hs
  · cases hs
end
end Ex
end Go.Proofs.YtlcdaalalihaiaaGreat

/- Contract of audit.Sound. -/
import Derived.Test.YtfiggkbclldccaaAuditC
namespace Go.Proofs.Ytfiggkbclldccaa
open Go Go.RowKit Go.MapKept
set_option maxRecDepth 100000

def unitV : Unit → Value := fun _ => .agg #[]
def Audit.seen (w : List Int) : List (Int × Unit) := w.foldl (fun m x => alSet m x ()) []
theorem Audit.seen_snoc (w : List Int) (k : Nat) (hk : k < w.length) : Audit.seen (w.take (k + 1)) = alSet (Audit.seen (w.take k)) w[k] () := by
  unfold Audit.seen
  rw [List.take_succ_eq_append_getElem hk, List.foldl_append]
  rfl
theorem Audit.seen_spec (w : List Int) : ∀ k, k ≤ w.length → (∀ x, x ∈ alKeys (Audit.seen (w.take k)) ↔ x ∈ w.take k) ∧ (Audit.seen (w.take k)).length ≤ k ∧ ((Audit.seen (w.take k)).length = k ↔ (w.take k).Nodup)
  | 0, _ => by simp [Audit.seen, alKeys]
  | k + 1, hk => by
    obtain ⟨h1, h2, h3⟩ := Audit.seen_spec w k (by omega)
    have hlt : k < w.length := by omega
    have hlen : ∀ (m : List (Int × Unit)), (alKeys m).length = m.length := fun m => by simp [alKeys]
    have hks := alKeys_set w[k] () (Audit.seen (w.take k))
    rw [Audit.seen_snoc w k hlt, ← hlen]
    rw [← hlen] at h2 h3
    rw [hks, List.take_succ_eq_append_getElem hlt]
    by_cases hm : w[k] ∈ alKeys (Audit.seen (w.take k))
    · have hm2 := (h1 _).1 hm
      rw [if_pos hm]
      refine ⟨fun x => ?_, by omega, ?_⟩
      · rw [h1 x, List.mem_append]
        constructor
        · exact .inl
        · rintro (h | h)
          · exact h
          · simp at h; rw [h]; exact hm2
      · constructor
        · intro h; omega
        · intro h
          rw [List.nodup_append] at h
          exact absurd rfl (h.2.2 _ hm2 _ (by simp))
    · have hm2 : w[k] ∉ w.take k := fun h => hm ((h1 _).2 h)
      rw [if_neg hm]
      refine ⟨fun x => ?_, by simp; omega, ?_⟩
      · rw [List.mem_append, List.mem_append, h1 x]
      · rw [List.length_append, List.length_singleton, List.nodup_append]
        constructor
        · intro h
          refine ⟨h3.1 (by omega), by simp, fun a ha b hb e => ?_⟩
          simp at hb
          subst hb
          exact hm2 (e ▸ ha)
        · intro h
          have := h3.2 h.1
          omega

theorem audit_Sound (v vw : Value) (l : List ChunkM) (q : List Int) (w : World) (F : List HProp) (hl : l.length ≤ 1000000) (hq : q.length ≤ 1000000) (hw : holds w (roChunks v l :: roInts vw q :: F)) :
    Calls Try.prog 99 #[v, vw] w fun e w' => e = .returned (.bool (Audit.sound l q)) ∧ holds w' (roChunks v l :: roInts vw q :: F) := by
  obtain ⟨r, hr⟩ : ∃ r, Audit.sound l q = r := ⟨_, rfl⟩
  rw [hr]
  obtain ⟨a, cap, rfl, hcap⟩ := roChunks_form hw
  obtain ⟨a', cap', rfl, hcap'⟩ := roInts_form (hw.pick 1)
  have HR := Lib.hid hr
  clear hr
  cases h1 : l.all Audit.right with
  | false =>
    have H1 := Lib.hid h1
    clear h1
    go_enter Try.func99, Try.ntmps99
    go_wp2_with (go_at_call 122; refine (audit_ContainsFunc _ l _ _ hl hw).mono ?_; rw [H1.out]; rintro e w1 ⟨rfl, h2⟩)
    go_ret
    exact ⟨by rw [← HR.out]; simp [Audit.sound, H1.out], h2⟩
  | true =>
    have H1 := Lib.hid h1
    clear h1
    have hmm := @run_makeMap Try.prog
    go_enter Try.func99, Try.ntmps99
    go_wp2_with fail
    refine (audit_ContainsFunc _ l _ _ hl hw).mono ?_
    rw [H1.out]
    rintro e w1 ⟨rfl, h2⟩
    go_wp2_with fail
    refine (audit_Many _ l _ _ hl h2).mono ?_
    rintro e w2 ⟨rfl, h3⟩
    have hix : ∀ w, (Instr.index 73 (.agg (manyCells l)) (.int .i64 2)).run Try.prog w = .ok (.int .i64 (Audit.many l 2)) w := fun w => by
      unfold manyCells
      generalize Audit.many l 0 = m0
      generalize Audit.many l 1 = m1
      generalize Audit.many l 2 = m2
      generalize Audit.many l 3 = m3
      kernel_rfl
    by_cases hlen : (q.length : Int) = Audit.many l 2
    · have hb : ((q.length : Int) != Audit.many l 2) = false := by simpa using hlen
      have HL := Lib.hid hlen
      clear hlen
      go_wp2_with fail
      clear hix hmm hb
      have h4 := (h3.alloc (.map #[] 0)).mkMap (enc := unitV) (m := []) rfl (stamped_empty 0)
      go_loopw [23] (fun i wr => ∃ k : Nat, k ≤ q.length ∧ i = .int .i64 k ∧ (∀ x ∈ q.take k, Audit.deferredAt l x = true) ∧ holds wr (imap unitV w2.heap.size (Audit.seen (q.take k)) :: roChunks (.slice a l.length cap) l :: roInts (.slice a' q.length cap') q :: F)) (fun i _ => q.length - (intOf i).toNat)
      case atStart => exact ⟨0, Nat.zero_le _, rfl, by simp, h4⟩
      case round =>
        obtain ⟨k, hk, rfl, hall, h5⟩ := hrel
        have HA := Lib.hid hall
        clear hall h4
        by_cases hlt : k < q.length
        · obtain ⟨g', off', cap2, hv, _, hcs⟩ := (h5.pick 2).roIntAt (by omega)
          cases hv
          have cq := hcs k hlt
          clear hcs
          have hsn := Audit.seen_snoc q k hlt
          have htk := List.take_succ_eq_append_getElem hlt
          generalize hx : q[k] = x at cq hsn htk
          have HS := Lib.hid hsn
          have HT := Lib.hid htk
          have HX := Lib.hid hx
          clear hsn htk hx
          cases hd : Audit.deferredAt l x with
          | true =>
            have HD := Lib.hid hd
            have hd2 := hd
            simp only [Audit.deferredAt, Bool.and_eq_true, decide_eq_true_eq] at hd2
            obtain ⟨⟨hx0, hx1⟩, hx2⟩ := hd2
            obtain ⟨n, rfl⟩ := Int.eq_ofNat_of_zero_le hx0
            have hn : n < l.length := by omega
            obtain ⟨g, off, cap3, hv, _, hcs⟩ := (h5.pick 1).chunkAt (by omega)
            cases hv
            obtain ⟨c0, c1, c2⟩ := hcs n hn
            rw [Int.toNat_natCast, List.getElem?_eq_getElem hn] at hx2
            have hp : l[n].phase = 2 := by simpa using hx2
            rw [hp] at c0
            clear hcs hd hx2 hp c1 c2
            go_wp2_with (at_mapUpdate; refine wpList_mapUpdate_sl (enc := unitV) rfl rfl _ _ _ _ rfl Try.underlying170 Try.underlying3 rfl _ () rfl rfl h5 ?_; intro w3 h6)
            go_roundw
            case rel =>
              refine ⟨k + 1, by omega, by go_num, ?_, by rw [HS.out]; exact h6⟩
              rw [HT.out]
              intro y hy
              rcases List.mem_append.1 hy with hy | hy
              · exact HA.out y hy
              · simp at hy; rw [hy]; exact HD.out
            case measure => simp [intOf]; omega
          | false =>
            have hfin : Audit.sound l q = false := by
              have : q.all (Audit.deferredAt l) = false := by
                rw [List.all_eq_false]
                exact ⟨x, by rw [← HX.out]; exact List.getElem_mem hlt, by simp [hd]⟩
              simp [Audit.sound, this]
            have HF := Lib.hid hfin
            clear hfin
            by_cases hx0 : x < 0
            · clear hd
              go_wp2_with fail
              go_ret
              exact ⟨by rw [← HR.out, HF.out]; rfl, h5.tail⟩
            · by_cases hx1 : x < l.length
              · obtain ⟨n, rfl⟩ := Int.eq_ofNat_of_zero_le (show 0 ≤ x by omega)
                have hn : n < l.length := by omega
                obtain ⟨g, off, cap3, hv, _, hcs⟩ := (h5.pick 1).chunkAt (by omega)
                cases hv
                obtain ⟨c0, c1, c2⟩ := hcs n hn
                have hp : ¬ l[n].phase = 2 := by
                  intro hp
                  simp [Audit.deferredAt, hn, hp] at hd
                have hpb : (l[n].phase != 2) = true := by simpa using hp
                clear hcs hd hp c1 c2
                generalize l[n].phase = p at c0 hpb
                go_wp2_with fail
                go_ret
                exact ⟨by rw [← HR.out, HF.out]; rfl, h5.tail⟩
              · clear hd
                go_wp2_with fail
                go_ret
                exact ⟨by rw [← HR.out, HF.out]; rfl, h5.tail⟩
        · have hkl : q.take k = q := List.take_of_length_le (by omega)
          have hs := Audit.seen_spec q q.length (Nat.le_refl _)
          rw [List.take_length] at hs
          have hle := hs.2.1
          rw [hkl] at h5
          have hln := run_len_sl (P := Try.prog) (t := 170) (ty := 3) Try.underlying170 h5
          have HS := Lib.hid hs
          clear hs
          generalize (Audit.seen q).length = c at hln HS hle
          go_wp2_with fail
          go_ret
          refine ⟨?_, h5.tail⟩
          rw [← HR.out]
          have hall := HA.out
          rw [hkl] at hall
          have hall2 : q.all (Audit.deferredAt l) = true := List.all_eq_true.2 hall
          have hL : q.length = Audit.many l 2 := by have := HL.out; omega
          have hS := HS.out.2.2
          by_cases hn : q.Nodup
          · have : c = q.length := hS.2 hn
            simp [Audit.sound, H1.out, hall2, hn, hL, this]
          · have : ¬ c = q.length := fun e => hn (hS.1 e)
            simp [Audit.sound, H1.out, hall2, hn]
            omega
    · have hb : ((q.length : Int) != Audit.many l 2) = true := by simpa using hlen
      go_wp2_with fail
      go_ret
      refine ⟨?_, h3⟩
      rw [← HR.out]
      have : ¬ q.length = Audit.many l 2 := by omega
      simp [Audit.sound, this]

end Go.Proofs.Ytfiggkbclldccaa

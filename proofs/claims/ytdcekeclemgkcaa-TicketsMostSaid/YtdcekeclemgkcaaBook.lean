/- Contracts of package tickets: what only reads. -/
import Derived.Test.YtdcekeclemgkcaaBookP
import Derived.Test.YtdcekeclemgkcaaSortedU
import Derived.Test.YtdcekeclemgkcaaTokOps
import Derived.WalkSpells
namespace Go.Proofs.Ytdcekeclemgkcaa
open Go Go.RowKit Go.MapKept
set_option maxRecDepth 100000
set_option linter.unusedVariables false
set_option maxHeartbeats 1000000

def unitV : Unit → Value := fun _ => .agg #[]
def tkL (t : TicketM) : List Value := (tkCells t).toList
theorem tkL_len : ∀ t, (tkL t).length = 5 := fun _ => rfl
theorem tkL_one (t : TicketM) : ∀ u ∈ tkL t, u.oneCell' = true := by simp [tkL, tkCells, Value.oneCell']
def ownTk (v : Value) (l : List TicketM) : HProp := ownRow 43 5 v l.length (l.flatMap tkL)
def bookAt (v : Value) (l : List TicketM) : HProp := fun f => ∃ b va bm m, (v = .pointer (some ⟨b, 0, none⟩) ∧ BookOk l m) ∧
  sep [blk b (.cells #[va, .map (some bm)] 62 (0, 0)), ownTk va l, imap unitV bm m] f
theorem open_book {w : World} {F : List HProp} {v : Value} {l : List TicketM} (h : holds w (bookAt v l :: F)) : ∃ b a c bm m, v = .pointer (some ⟨b, 0, none⟩) ∧ BookOk l m ∧
    holds w (blk b (.cells #[.slice a l.length c, .map (some bm)] 62 (0, 0)) :: ownTk (.slice a l.length c) l :: imap unitV bm m :: F) := by
  obtain ⟨b, h⟩ := h.open_ex
  obtain ⟨va, h⟩ := h.open_ex
  obtain ⟨bm, h⟩ := h.open_ex
  obtain ⟨m, h⟩ := h.open_ex
  obtain ⟨⟨h1, h2⟩, h⟩ := h.open_pure
  have h := holds_sep.1 h
  obtain ⟨a, c, rfl⟩ := ownRow_form (h.pick 1)
  exact ⟨b, a, c, bm, m, h1, h2, h⟩
theorem shut_book {w : World} {F : List HProp} {b bm : Nat} {va : Value} {m : List (Int × Unit)} {l : List TicketM} (hm : BookOk l m)
    (h : holds w (blk b (.cells #[va, .map (some bm)] 62 (0, 0)) :: ownTk va l :: imap unitV bm m :: F)) :
    holds w (bookAt (.pointer (some ⟨b, 0, none⟩)) l :: F) :=
  (holds_sep (l := [_, _, _]).2 h).mono fun _ hf => ⟨b, va, bm, m, ⟨rfl, hm⟩, hf⟩

theorem holds.tkAt {w : World} {F : List HProp} {v : Value} {l : List TicketM} (hw : holds w (ownTk v l :: F)) (h0 : 0 < l.length) :
    ∃ g cap, v = .slice (some ⟨g, 0, none⟩) l.length cap ∧ l.length ≤ cap ∧ cap ≤ maxLen ∧ ∀ (i : Nat) (hi : i < l.length), w.cell? ⟨g, i * 5, none⟩ = some (.int .i64 l[i].id) ∧ w.cell? ⟨g, i * 5 + 1, none⟩ = some (.int .i64 l[i].client) ∧ w.cell? ⟨g, i * 5 + 2, none⟩ = some (.int .i64 l[i].count) ∧ w.cell? ⟨g, i * 5 + 3, none⟩ = some (.int .i64 l[i].state) ∧ w.cell? ⟨g, i * 5 + 4, none⟩ = some (.int .i64 l[i].passed) := by
  obtain ⟨g, cap, h1, h2, h3, h4, _⟩ := holds.elemAt tkL_len hw h0
  refine ⟨g, cap, h1, h2, h3, fun i hi => ⟨h4 i hi 0 (by omega), h4 i hi 1 (by omega), h4 i hi 2 (by omega), h4 i hi 3 (by omega), h4 i hi 4 (by omega)⟩⟩

theorem book_is (w : World) (v : Value) (l : List TicketM) (F : List HProp) (hw : holds w (bookAt v l :: F)) :
    Calls Try.prog 90 #[v] w fun e w' => e = .returned (.bool true) ∧ holds w' (bookAt v l :: F) := by
  obtain ⟨b, a, c, bm, m, rfl, hm, h⟩ := open_book hw
  have c1 := cellAt h.get_blk 1
  simp at c1
  have qT : ∀ (w : World) (r : Option Nat), (binOp .neq 60 (.map r) (.map none)).run Try.prog w = .ok (.bool (!r.isNone)) w := fun w r => run_neq_map_nil w _ _ _ r Try.underlying60
  go_enter Try.func90, Try.ntmps90
  go_wp2
  go_ret
  exact ⟨rfl, hw⟩
theorem book_New (w : World) (F : List HProp) (hw : holds w F) :
    Calls Try.prog 23 #[] w fun e w' => ∃ v, e = .returned v ∧ holds w' (bookAt v [] :: F) := by
  have h1 := (hw.alloc (.map #[] 0)).mkMap (enc := unitV) (m := []) rfl (stamped_empty 0)
  have h2 := h1.alloc (.cells #[.slice none 0 0, .map (some w.heap.size)] 62 (0, 0))
  have h3 : holds _ (bookAt _ [] :: F) := shut_book BookOk.nil ((holds_ownRow_nil h2 43 5).order [1, 0, 2])
  simp only [World.size_alloc] at h3
  have hmm := @run_makeMap Try.prog
  go_enter Try.func23, Try.ntmps23
  go_wp2
  go_ret
  exact ⟨_, rfl, h3⟩
theorem book_Len (w : World) (v : Value) (l : List TicketM) (F : List HProp) (hw : holds w (bookAt v l :: F)) :
    Calls Try.prog 35 #[v] w fun e w' => e = .returned (.int .i64 l.length) ∧ holds w' (bookAt v l :: F) := by
  obtain ⟨b, a, c, bm, m, rfl, hm, h⟩ := open_book hw
  have c1 := cellAt h.get_blk 0
  simp at c1
  go_enter Try.func35, Try.ntmps35
  go_wp2
  go_ret
  exact ⟨rfl, hw⟩

def Book.get (l : List TicketM) (id : Int) : TicketM × Int := if id < 1 ∨ l.length < id then (tk0, 12) else (l.getD (id - 1).toNat tk0, 0)
theorem book_Get (w : World) (v : Value) (l : List TicketM) (id : Int) (F : List HProp) (hl : l.length ≤ 1048576) (hw : holds w (bookAt v l :: F)) :
    Calls Try.prog 29 #[v, .int .i64 id] w fun e w' => e = .returned (tkR (Book.get l id)) ∧ holds w' (bookAt v l :: F) := by
  have hb := (hw.alloc (.cells (tkCells tk0) 43 (0, 0))).order [1, 0]
  unfold Book.get
  by_cases i0 : id < 1
  · rw [if_pos (.inl i0)]
    unfold tkCells tk0 at *
    go_enter Try.func29, Try.ntmps29
    go_wp2_with fail
    refine (book_is _ _ _ _ hb).mono ?_
    rintro e w1 ⟨rfl, h1⟩
    have h1 := h1.order [1, 0]
    obtain ⟨r0, r1, r2, r3, r4, f0, f1, f2, f33, f4⟩ := tk_cells (t := tk0) h1
    go_wp2_with fail
    have h4 := store5 (t := tk0) h1 tk0
    refine bodyPost_ret (v := tkR (tk0, 12)) ?_ rfl ⟨rfl, h4.tail⟩
    exact results_row_tmp Try.results29 _ _ w.heap.size _ _ _ _ _ rfl rfl h4.get_blk Try.underlying43 rfl Try.sizeTk
  by_cases i1 : l.length < id
  · rw [if_pos (.inr i1)]
    unfold tkCells tk0 at *
    go_enter Try.func29, Try.ntmps29
    go_wp2_with fail
    refine (book_is _ _ _ _ hb).mono ?_
    rintro e w1 ⟨rfl, h1⟩
    obtain ⟨b, a, c, bm, m, rfl, hm, h2⟩ := open_book h1
    have c1 := cellAt h2.get_blk 0
    simp at c1
    clear h2
    have h1 := h1.order [1, 0]
    obtain ⟨r0, r1, r2, r3, r4, f0, f1, f2, f33, f4⟩ := tk_cells (t := tk0) h1
    go_wp2_with fail
    have h4 := store5 (t := tk0) h1 tk0
    refine bodyPost_ret (v := tkR (tk0, 12)) ?_ rfl ⟨rfl, h4.tail⟩
    exact results_row_tmp Try.results29 _ _ w.heap.size _ _ _ _ _ rfl rfl h4.get_blk Try.underlying43 rfl Try.sizeTk
  rw [if_neg (by omega)]
  obtain ⟨k, hk⟩ : ∃ k : Nat, id - 1 = k := ⟨(id - 1).toNat, by omega⟩
  have hkl : k < l.length := by omega
  rw [hk]
  have e : l.getD (k : Int).toNat tk0 = l[k] := by simp [hkl]
  rw [e]
  have wr : IntKind.i64.wrap (id - 1) = (k : Int) := by rw [hk]; exact IntWalk.i64_in _ (by omega)
  clear e hk
  unfold tkCells tk0 at *
  go_enter Try.func29, Try.ntmps29
  go_wp2_with fail
  refine (book_is _ _ _ _ hb).mono ?_
  rintro e w1 ⟨rfl, h1⟩
  obtain ⟨b, a, c, bm, m, rfl, hm, h2⟩ := open_book h1
  have c1 := cellAt h2.get_blk 0
  simp at c1
  obtain ⟨g, cap, he, hc1, hc2, hcell⟩ := holds.tkAt (h2.pick 1) (by omega)
  cases he
  obtain ⟨k0, k1, k2, k3, k4⟩ := hcell k hkl
  clear h2 hcell
  have h1 := h1.order [1, 0]
  obtain ⟨r0, r1, r2, r3, r4, f0, f1, f2, f33, f4⟩ := tk_cells (t := tk0) h1
  go_wp2_with fail
  have h4 := store5 (t := tk0) h1 l[k]
  refine bodyPost_ret (v := tkR (l[k], 0)) ?_ rfl ⟨rfl, h4.tail⟩
  exact results_row_tmp Try.results29 _ _ w.heap.size _ _ _ _ _ rfl rfl h4.get_blk Try.underlying43 rfl Try.sizeTk
end Go.Proofs.Ytdcekeclemgkcaa

import Derived.Test.YtlcdaalalihaiaaGreatMg16

/- A run by calculation, in 4 parts: the states between them, and what comes at the end. -/
namespace Go.Proofs.YtlcdaalalihaiaaGreat
open Go Go.RowKit
set_option linter.unusedVariables false
set_option maxRecDepth 100000
set_option maxHeartbeats 4000000
namespace Ex.exMaR
abbrev L : Tr Value := .leaf
abbrev N (v : Value) (l r : Tr Value) : Tr Value := .node (some v) l r
abbrev M (l r : Tr Value) : Tr Value := .node none l r
abbrev O (v : Value) : Tr Value := .node (some v) .leaf .leaf
abbrev i (n : Nat) : Value := .int .i64 (.ofNat n)
abbrev j (n : Nat) : Value := .int .i64 (.negSucc n)
abbrev tt : Value := .bool true
abbrev ff : Value := .bool false
abbrev p0 : Value := .pointer none
abbrev p (k o : Nat) : Value := .pointer (some ⟨k, o, none⟩)
abbrev sl (k o n c : Nat) : Value := .slice (some ⟨k, o, none⟩) n c
abbrev mp (k : Nat) : Value := .map (some k)
abbrev oq (k : Nat) : Value := .chan (some k)
abbrev ag (l : List Value) : Value := .agg ⟨l⟩
abbrev tu (l : List Value) : Value := .tuple ⟨l⟩
abbrev fn (f : Fn) (a b : List Value) : Value := .func f ⟨a⟩ ⟨b⟩
abbrev rp (n : Nat) (v : Value) : List Value := List.replicate n v
abbrev strOf (l : List Nat) : ByteArray := ⟨⟨l.map UInt8.ofNat⟩⟩
abbrev st (l : List Nat) : Value := .string (strOf l)
noncomputable abbrev cd (f : Nat) (l : List Nat) : Code := bodyAt Tryz.prog f l
abbrev ki32i (n : Nat) : Value := .int .i32 (.ofNat n)
abbrev ku8i (n : Nat) : Value := .int .u8 (.ofNat n)
abbrev ku32i (n : Nat) : Value := .int .u32 (.ofNat n)
abbrev ku64i (n : Nat) : Value := .int .u64 (.ofNat n)
noncomputable def s2500 : SM := ⟨⟨⟨41, 9, false, none⟩, mkT [(0, (fn (.func 149) [] [(p 881 0)]))], [.code (cd 41 [])], [], false⟩, [⟨⟨39, 39, false, none⟩, mkT [(0, (p 261 0)), (3, (sl 880 0 0 1)), (7, tt), (15, (p 261 0)), (19, (fn (.func 149) [] [(p 881 0)])), (9, (p 261 0)), (17, (p 261 1)), (2, (.slice none 0 0)), (8, ff), (16, (p 261 0)), (6, (p 261 0)), (10, (p 261 0)), (18, (mp 260))], [regAt (cd 39 [1, 1, 1, 0, 0]) 5, .code (cd 39 [1, 1, 1, 0, 1]), .code (cd 39 [1, 1, 1, 1])], [], false⟩,
  ⟨⟨71, 123, false, none⟩, mkT [(0, (p 274 0)), (3, (i 0)), (23, (p 274 2)), (19, ff), (35, (p 274 3)), (27, (tu [(.slice none 0 0), (i 0)])), (5, (.slice none 0 0)), (17, (p 274 0)), (33, (p 274 0)), (25, (p 274 0)), (21, (p 274 0)), (2, (.slice none 0 0)), (4, (i 0)), (24, (p 253 0)), (20, (tu [(.slice none 0 0), (i 0)])), (36, (p 261 0)), (6, (i 0)), (18, tt), (34, (p 274 0)), (26, (sl 808 0 1 1)), (22, (p 274 0))], [regAt (cd 71 [1, 1, 1, 1, 0]) 4, .code (cd 71 [1, 1, 1, 1, 1])], [], false⟩,
  ⟨⟨31, 21, false, none⟩, mkT [(0, (p 280 0)), (1, (ag [(i 12), (i 0), (i 0), (i 0), (st [])])), (3, (p 785 0)), (11, (p 280 4)), (9, (p 280 0)), (4, (p 786 0)), (12, (p 274 0)), (10, (p 280 0))], [regAt (cd 31 [1, 0]) 4, .code (cd 31 [1, 1])], [], false⟩,
  ⟨⟨5, 32, false, none⟩, mkT [(0, (p 280 0)), (1, (ag [(i 12), (i 0), (i 0), (i 0), (st [])])), (3, (p 772 0)), (23, tt), (27, (p 781 0)), (5, (p 781 0)), (29, (p 280 0)), (4, (p 773 0)), (24, tt), (28, (fn (.func 31) [] [])), (30, (ag [(i 12), (i 0), (i 0), (i 0), (st [])]))], [regAt (cd 5 [1, 1, 1, 1, 0]) 4, .code .ret], [], false⟩,
  ⟨⟨9, 81, false, none⟩, mkT [(0, ff), (1, (p 280 0)), (3, (p 465 0)), (15, (p 280 0)), (23, (p 280 0)), (11, (ag [(i 4), (i 64), (i 1), (i 0)])), (19, (p 465 1)), (17, (ag [(i 0), (i 1152921504606846976), (.slice none 0 0), (st [])])), (13, (p 280 0)), (21, (ag [(i 3), (i 1152921504606846976), (i 1), (i 0), (st [])])), (2, (i 0)), (4, (p 771 0)), (16, (ag [(i 1), (i 2), (i 0), (i 0), (st [])])), (24, (ag [(i 12), (i 0), (i 0), (i 0), (st [])])), (12, (tu [(p 280 0), (i 0)])), (20, (i 1152921504606846976)), (10, (tu [(p 280 0), (i 0)])), (18, (p 280 0)), (14, (i 0)), (22, (ag [(i 0), (i 1), (.slice none 0 0), (st [])]))], [regAt (cd 9 [1, 1, 1, 1, 0]) 2, .code (cd 9 [1, 1, 1, 1, 1])], [], false⟩,
  ⟨⟨3, 41, false, none⟩, mkT [(0, (ag [(oq 0), (oq 1), (oq 2), (oq 3), (oq 4)])), (1, (p 0 0)), (3, p0), (7, (ag [(i 16), (i 0), (.slice none 0 0), (st [])])), (15, tt), (31, tt), (23, (ag [(i 0), (.slice none 0 0), (.slice none 0 0), (.slice none 0 0), (.slice none 0 0), (.slice none 0 0)])), (11, (ag [(oq 0), (oq 1), (oq 2), (oq 3), (oq 4)])), (19, (ag [(i 0), (.slice none 0 0), (.slice none 0 0), (.slice none 0 0), (.slice none 0 0), (.slice none 0 0)])), (35, (ag [(i 0), (i 0), (i 0), (i 0)])), (27, tt), (5, p0), (9, tt), (17, p0), (33, tt), (25, tt), (13, (ag [(i 16), (i 0), (.slice none 0 0), (st [])])), (21, tt), (37, tt), (29, (ag [(i 0), (i 0), (i 0), (i 0)])), (2, ff), (4, (p 1 0)), (8, (ag [(i 16), (i 0), (.slice none 0 0), (st [])])), (16, tt), (32, tt), (24, (ag [(i 0), (.slice none 0 0), (.slice none 0 0), (.slice none 0 0), (.slice none 0 0), (.slice none 0 0)])), (12, (ag [(i 16), (i 0), (.slice none 0 0), (st [])])), (20, tt), (36, tt), (28, p0), (6, (ag [(oq 0), (oq 1), (oq 2), (oq 3), (oq 4)])), (10, tt), (18, (ag [(i 0), (.slice none 0 0), (.slice none 0 0), (.slice none 0 0), (.slice none 0 0), (.slice none 0 0)])), (34, (ag [(i 0), (i 0), (i 0), (i 0)])), (26, tt), (14, tt), (22, tt), (38, tt), (30, (ag [(i 0), (i 0), (i 0), (i 0)]))], [regAt (cd 3 [1, 1, 1, 0]) 34, .code .ret], [], false⟩], mkT [(0, .cells ⟨L, 5, [(oq 0), (oq 1), (oq 2), (oq 3), (oq 4)]⟩ 23 true 0),
  (1, .cells ⟨L, 7, [(i 0), (i 0), (i 0), (i 0), p0, p0, p0]⟩ 31 true 0),
  (29, .cells ⟨L, 24, [(ku32i 0), (ki32i 0), (ku32i 0), (i 0), p0, p0]⟩ 208 true 0),
  (33, .cells ⟨(M L (M (O (i 4)) L)), 9, [(p 37 0), (p 162 0), (sl 29 0 4 4), (i 64), (i 0), (i 0), (i 0), (i 0), (p 163 0)]⟩ 137 true 0),
  (35, .cells ⟨L, 8, [(i 0), (i 0)]⟩ 274 true 0),
  (36, .map [] 0),
  (37, .cells ⟨L, 2, [(sl 35 0 4 4), (mp 36)]⟩ 277 true 0),
  (38, .cells ⟨(N (i 3) (N (i 2) (N (i 0) (O (i 0)) L) (O (i 2))) (N (i 1) (O (i 3)) (O (i 1)))), 8, [(i 0)]⟩ 3 true 0),
  (50, .cells ⟨(O (sl 38 4 4 4)), 2, [(sl 38 4 0 4), (sl 38 0 4 4)]⟩ 392 true 0),
  (52, .cells ⟨(O (ku64i 15)), 1, [(ku64i 0)]⟩ 324 true 0),
  (53, .cells ⟨L, 261, ([(sl 52 0 1 1), (i 4), (ku32i 0), (ki32i 0), (ku32i 0)] ++ rp 256 (ku8i 0))⟩ 396 true 0),
  (162, .cells ⟨L, 2, [(p 50 0), (p 53 0)]⟩ 330 true 0),
  (163, .cells ⟨L, 5, [(i 4), (ku32i 0), (ki32i 0), (ku32i 0), (.slice none 0 0)]⟩ 303 true 0),
  (164, .cells ⟨(N (i 0) (N (i 0) (N (i 0) (N (i 0) (N (i 0) (N (i 0) (O (i 0)) L) (O (i 0))) (N (i 0) (O (i 0)) (O (i 0)))) (N (i 0) (N (i 0) (O (i 0)) (O (i 0))) (N (i 0) (O (i 0)) (O (i 0))))) (N (i 0) (N (i 0) (N (i 0) (O (i 0)) (O (i 0))) (N (i 0) (O (i 0)) (O (i 0)))) (N (i 0) (N (i 0) (O (i 0)) (O (i 0))) (N (i 0) (O (i 0)) (O (i 0)))))) (N (i 0) (N (i 0) (N (i 0) (N (i 0) (O (i 0)) (O (i 0))) (N (i 0) (O (i 0)) (O (i 0)))) (N (i 0) (N (i 0) (O (i 0)) (O (i 0))) (N (i 0) (O (i 0)) (O (i 0))))) (N (i 0) (N (i 0) (N (i 0) (O (i 0)) (O (i 0))) (N (i 0) (O (i 0)) (O (i 0)))) (N (i 0) (N (i 0) (O (i 0)) (O (i 0))) (N (i 0) (O (i 0)) (O (i 0))))))), 64, [(i 0)]⟩ 3 true 0),
  (165, .cells ⟨L, 1, [(sl 164 0 64 64)]⟩ 332 true 0),
  (247, .cells ⟨L, 4, [(i 0)]⟩ 3 true 0),
  (248, .cells ⟨L, 3, [(sl 247 0 4 4), (i 0), (i 0)]⟩ 383 true 0),
  (249, .cells ⟨(N (j 0) (N (j 0) (O (j 0)) L) (O (j 0))), 4, [(i 0)]⟩ 3 true 0),
  (250, .cells ⟨L, 4, [(p 248 0), (sl 249 0 4 4), (i 0), (i 0)]⟩ 233 true 0),
  (251, .cells ⟨(M (N ff (O (i 4)) L) (N tt (O (i 4)) L)), 6, [(i 0), ff, ff, (i 0), (i 0), (i 0)]⟩ 337 true 0),
  (252, .cells ⟨(M (O (ku32i 1)) (N (ki32i 0) (O (sl 829 0 2 2)) L)), 5, [(i 2), (ku32i 0), (ki32i 0), (ku32i 0), (.slice none 0 0)]⟩ 303 true 0),
  (253, .cells ⟨L, 6, [(p 165 0), (p 33 0), (p 250 0), (p 251 0), (p 252 0), (i 1)]⟩ 131 true 0),
  (254, .cells ⟨L, 64, [(i 0)]⟩ 3 true 0),
  (255, .map [⟨(i 0), tt, 0⟩] 1),
  (256, .cells ⟨(M (M (O (i 1)) L) L), 4, [(sl 254 0 64 64), (mp 255), (.slice none 0 0), (i 0)]⟩ 261 true 0),
  (257, .map [⟨(i 0), (ag [(i 2), (i 0), (i 1)]), 0⟩] 1),
  (258, .cells ⟨L, 2, [(p 256 0), (mp 257)]⟩ 236 true 0),
  (259, .cells ⟨L, 2, [(i 4), (p 258 0)]⟩ 140 true 0),
  (260, .map [⟨(i 1), (ag []), 0⟩] 1),
  (261, .cells ⟨(O (sl 695 0 1 1)), 2, [(.slice none 0 0), (mp 260)]⟩ 143 true 0),
  (262, .cells ⟨(N (j 0) (O (j 0)) (O (i 0))), 768, [(j 0), (j 0), (j 0)]⟩ 346 true 0),
  (263, .cells ⟨(N (i 0) (O (i 0)) (O (i 1))), 3, [(j 0), (j 0), (i 0)]⟩ 348 true 0),
  (264, .cells ⟨L, 2, [(sl 262 0 256 256), (sl 263 0 1 1)]⟩ 341 true 0),
  (265, .cells ⟨(N (j 0) (O (j 0)) (O (i 0))), 768, [(j 0), (j 0), (j 0)]⟩ 346 true 0),
  (266, .cells ⟨(N (i 0) (O (i 0)) (O (i 1))), 192, [(j 0), (j 0), (i 0)]⟩ 348 true 0),
  (267, .cells ⟨L, 2, [(sl 265 0 256 256), (sl 266 0 64 64)]⟩ 341 true 0),
  (268, .cells ⟨L, 256, [(i 0)]⟩ 3 true 0),
  (269, .map [⟨(i 0), tt, 0⟩] 1),
  (270, .cells ⟨(M (M (O (i 1)) L) L), 4, [(sl 268 0 256 256), (mp 269), (.slice none 0 0), (i 0)]⟩ 261 true 0),
  (271, .map [⟨(i 1), (i 0), 0⟩] 1),
  (272, .cells ⟨(M L (M (N (i 1) L (M (M (M (M (M (O (i 0)) L) L) L) L) L)) L)), 516, ([(p 264 0), (p 267 0), (p 270 0), (mp 271)] ++ rp 512 (i 0))⟩ 252 true 0),
  (273, .map [] 0),
  (274, .cells ⟨L, 6, [(p 259 0), (p 33 0), (p 253 0), (p 261 0), (p 272 0), (mp 273)]⟩ 81 true 0),
  (280, .cells ⟨L, 7, [(i 4), (i 64), (i 1), (i 0), (p 274 0), (p 301 0), (p 303 0)]⟩ 31 true 0),
  (290, .cells ⟨L, 4096, [(i 0)]⟩ 3 true 0),
  (292, .cells ⟨L, 3, [(p 296 0), (p 299 0), (sl 290 0 4096 4096)]⟩ 180 true 0),
  (294, .cells ⟨L, 4096, [(i 0)]⟩ 3 true 0),
  (295, .map [] 0),
  (296, .cells ⟨L, 4, [(sl 294 0 4096 4096), (mp 295), (.slice none 0 0), (i 0)]⟩ 261 true 0),
  (297, .cells ⟨L, 12288, [(j 0), (j 0), (j 0)]⟩ 346 true 0),
  (298, .cells ⟨L, 12291, [(j 0), (j 0), (i 0)]⟩ 348 true 0),
  (299, .cells ⟨L, 2, [(sl 297 0 4096 4096), (sl 298 0 4097 4097)]⟩ 341 true 0),
  (300, .map [] 0),
  (301, .cells ⟨L, 2, [(p 292 0), (mp 300)]⟩ 168 true 0),
  (302, .map [] 0),
  (303, .cells ⟨L, 1, [(mp 302)]⟩ 94 true 0),
  (465, .cells ⟨(N (i 0) (N (i 1152921504606846976) (O (st [])) L) (O (.slice none 0 0))), 4, [(i 0), (i 0), (.slice none 0 0), (st [])]⟩ 36 true 0),
  (695, .cells ⟨L, 5, [(i 1), (i 0), (i 1), (i 1), (i 0)]⟩ 71 true 5),
  (771, .cells ⟨(N (i 0) (N (i 1) (O (st [])) L) (O (.slice none 0 0))), 4, [(i 0), (i 0), (.slice none 0 0), (st [])]⟩ 36 true 0),
  (772, .cells ⟨L, 5, [(i 12), (i 0), (i 0), (i 0), (st [])]⟩ 23 true 0),
  (773, .cells ⟨L, 4, [(i 0), (i 0), (.slice none 0 0), (st [])]⟩ 36 true 0),
  (781, .cells ⟨(O (fn (.func 31) [] [])), 1, [.nilFunc]⟩ 53 true 0),
  (785, .cells ⟨L, 5, [(i 12), (i 0), (i 0), (i 0), (st [])]⟩ 23 true 0),
  (786, .cells ⟨L, 4, [(i 0), (i 0), (.slice none 0 0), (st [])]⟩ 36 true 0),
  (808, .cells ⟨(O (i 0)), 1, [(i 0)]⟩ 3 true 0),
  (829, .cells ⟨(N (i 1) (O (i 0)) L), 2, [(i 0)]⟩ 307 true 0),
  (880, .cells ⟨L, 5, [(i 0), (i 0), (i 0), (i 0), (i 0)]⟩ 71 true 0),
  (881, .cells ⟨L, 1, [(mp 260)]⟩ 141 true 0)], 882⟩
noncomputable def s5000 : SM := ⟨⟨⟨130, 53, false, none⟩, mkT [(0, (i 2305843009213693952)), (3, (i 0)), (7, (p 1989 0)), (15, (i 3)), (31, (p 1989 2)), (23, (i 3)), (39, (i 0)), (11, ff), (19, (p 2036 0)), (35, ff), (27, (i 2305843009213693952)), (43, ff), (5, (i 0)), (9, (p 2036 0)), (17, (i 3)), (33, (p 2021 1)), (25, (i 3)), (41, (i 1048575)), (13, (i 3)), (21, (i 2305843009213693952)), (37, (i 2)), (29, (p 1989 3)), (2, (i 0)), (4, (i 0)), (8, (i 3)), (16, (ag [(i 0), (i 0), (i 1048575)])), (32, (i 0)), (24, tt), (40, (p 2021 2)), (12, (ag [(i 60), (i 1), (i 3), (i 40), (i 0), (i 1048575), (i 20), (i 0), (i 1048575), (i 0), (i 0), (i 1048575)])), (20, (i 0)), (36, ff), (28, (i 0)), (44, (i 3)), (6, ff), (10, (i 2305843009213693952)), (18, (i 2305843009213693952)), (34, (i 0)), (26, (p 1989 3)), (42, ff), (14, tt), (22, (p 1989 3)), (38, (p 1989 2)), (30, (i 2))], [regAt (cd 130 [1, 1, 1, 0, 1, 0, 0, 1, 1, 0, 0, 1, 1, 0, 1, 0]) 5, .code (cd 130 [1, 1, 1, 0, 1, 0, 0, 1, 1, 0, 0, 1, 1, 1]), .blk 1, .code (cd 130 [1, 1, 1, 0, 1, 0, 0, 1, 1, 1]), .lp (cd 130 [1, 1, 1, 0, 1, 0, 0]), .blk 0, .code (cd 130 [1, 1, 1, 1])], [], false⟩, [⟨⟨113, 43, false, none⟩, mkT [(0, (p 301 0)), (1, (i 2305843009213693952)), (15, (i 2305843009213693952)), (11, (p 301 0)), (5, (i 0)), (4, (i 0))], [regAt (cd 113 [1, 1, 0]) 1, .code (cd 113 [1, 1, 1])], [], false⟩,
  ⟨⟨111, 24, false, none⟩, mkT [(0, (p 301 0)), (1, (i 2305843009213693952)), (5, (i 0)), (9, (p 301 0)), (4, (i 0)), (10, (i 2305843009213693952))], [regAt (cd 111 [1, 0]) 2, .code (cd 111 [1, 1])], [], false⟩,
  ⟨⟨56, 34, false, none⟩, mkT [(0, (p 280 0)), (1, (i 2305843009213693952)), (11, (p 280 0)), (5, (i 0)), (13, (p 301 0)), (4, (i 0)), (12, (p 280 5)), (10, (p 280 0)), (14, (i 2305843009213693952))], [regAt (cd 56 [1, 0]) 5, .code (cd 56 [1, 1])], [], false⟩,
  ⟨⟨26, 122, false, none⟩, mkT [(0, (p 280 0)), (1, (ag [(i 7), (i 2305843009213693952), (i 10), (i 8), (st [])])), (3, (p 1987 0)), (15, (p 1987 1)), (4, (p 1988 0)), (16, (i 2305843009213693952)), (14, (p 280 0))], [regAt (cd 26 [1, 0]) 3, .code (cd 26 [1, 1])], [], false⟩,
  ⟨⟨5, 32, false, none⟩, mkT [(0, (p 280 0)), (1, (ag [(i 7), (i 2305843009213693952), (i 10), (i 8), (st [])])), (3, (p 1974 0)), (23, tt), (27, (p 1983 0)), (5, (p 1983 0)), (29, (p 280 0)), (4, (p 1975 0)), (24, tt), (28, (fn (.func 26) [] [])), (30, (ag [(i 7), (i 2305843009213693952), (i 10), (i 8), (st [])]))], [regAt (cd 5 [1, 1, 1, 1, 0]) 4, .code .ret], [], false⟩,
  ⟨⟨9, 81, false, none⟩, mkT [(0, ff), (1, (p 280 0)), (3, (p 465 0)), (15, (p 280 0)), (31, (p 280 0)), (23, (p 280 0)), (11, (ag [(i 4), (i 64), (i 1), (i 0)])), (19, (p 465 1)), (27, (p 465 1)), (5, (p 1649 0)), (17, (ag [(i 0), (i 1152921504606846976), (.slice none 0 0), (st [])])), (33, (i 2305843009213693952)), (25, (ag [(i 0), (i 0), (sl 1648 0 1 1), (st [])])), (13, (p 280 0)), (21, (ag [(i 3), (i 1152921504606846976), (i 1), (i 0), (st [])])), (29, (ag [(i 5), (i 1152921504606846976), (i 0), (i 0), (st [])])), (2, (i 0)), (4, (p 771 0)), (16, (ag [(i 1), (i 2), (i 0), (i 0), (st [])])), (32, (p 1973 1)), (24, (ag [(i 12), (i 0), (i 0), (i 0), (st [])])), (12, (tu [(p 280 0), (i 0)])), (20, (i 1152921504606846976)), (28, (i 1152921504606846976)), (6, (p 1973 0)), (10, (tu [(p 280 0), (i 0)])), (18, (p 280 0)), (34, (ag [(i 7), (i 2305843009213693952), (i 10), (i 8), (st [])])), (26, (p 280 0)), (14, (i 0)), (22, (ag [(i 0), (i 1), (.slice none 0 0), (st [])])), (30, (ag [(i 0), (i 2305843009213693952), (.slice none 0 0), (st [])]))], [regAt (cd 9 [1, 1, 1, 1, 1, 1, 0]) 4, .code (cd 9 [1, 1, 1, 1, 1, 1, 1])], [], false⟩,
  ⟨⟨3, 41, false, none⟩, mkT [(0, (ag [(oq 0), (oq 1), (oq 2), (oq 3), (oq 4)])), (1, (p 0 0)), (3, p0), (7, (ag [(i 16), (i 0), (.slice none 0 0), (st [])])), (15, tt), (31, tt), (23, (ag [(i 0), (.slice none 0 0), (.slice none 0 0), (.slice none 0 0), (.slice none 0 0), (.slice none 0 0)])), (11, (ag [(oq 0), (oq 1), (oq 2), (oq 3), (oq 4)])), (19, (ag [(i 0), (.slice none 0 0), (.slice none 0 0), (.slice none 0 0), (.slice none 0 0), (.slice none 0 0)])), (35, (ag [(i 0), (i 0), (i 0), (i 0)])), (27, tt), (5, p0), (9, tt), (17, p0), (33, tt), (25, tt), (13, (ag [(i 16), (i 0), (.slice none 0 0), (st [])])), (21, tt), (37, tt), (29, (ag [(i 0), (i 0), (i 0), (i 0)])), (2, ff), (4, (p 1 0)), (8, (ag [(i 16), (i 0), (.slice none 0 0), (st [])])), (16, tt), (32, tt), (24, (ag [(i 0), (.slice none 0 0), (.slice none 0 0), (.slice none 0 0), (.slice none 0 0), (.slice none 0 0)])), (12, (ag [(i 16), (i 0), (.slice none 0 0), (st [])])), (20, tt), (36, tt), (28, p0), (6, (ag [(oq 0), (oq 1), (oq 2), (oq 3), (oq 4)])), (10, tt), (18, (ag [(i 0), (.slice none 0 0), (.slice none 0 0), (.slice none 0 0), (.slice none 0 0), (.slice none 0 0)])), (34, (ag [(i 0), (i 0), (i 0), (i 0)])), (26, tt), (14, tt), (22, tt), (38, tt), (30, (ag [(i 0), (i 0), (i 0), (i 0)]))], [regAt (cd 3 [1, 1, 1, 0]) 34, .code .ret], [], false⟩], mkT [(0, .cells ⟨L, 5, [(oq 0), (oq 1), (oq 2), (oq 3), (oq 4)]⟩ 23 true 0),
  (1, .cells ⟨L, 7, [(i 0), (i 0), (i 0), (i 0), p0, p0, p0]⟩ 31 true 0),
  (29, .cells ⟨(N (ku32i 1) (N (ki32i 0) (O (i 1)) L) (M (O (p 1406 0)) L)), 24, [(ku32i 0), (ki32i 0), (ku32i 0), (i 0), p0, p0]⟩ 208 true 0),
  (33, .cells ⟨(M (M L (O (i 1))) (M (O (i 3)) L)), 9, [(p 37 0), (p 162 0), (sl 29 0 4 4), (i 64), (i 0), (i 0), (i 0), (i 0), (p 163 0)]⟩ 137 true 0),
  (35, .cells ⟨(O (i 1)), 8, [(i 0), (i 0)]⟩ 274 true 0),
  (36, .map [⟨(i 1), (i 1), 0⟩] 1),
  (37, .cells ⟨L, 2, [(sl 35 0 4 4), (mp 36)]⟩ 277 true 0),
  (38, .cells ⟨(N (j 0) (N (i 2) (N (i 0) (O (i 0)) L) (O (i 2))) (N (i 1) (O (i 3)) (O (i 1)))), 8, [(i 0)]⟩ 3 true 0),
  (50, .cells ⟨(O (sl 38 4 3 4)), 2, [(sl 38 4 0 4), (sl 38 0 4 4)]⟩ 392 true 0),
  (52, .cells ⟨(O (ku64i 14)), 1, [(ku64i 0)]⟩ 324 true 0),
  (53, .cells ⟨L, 261, ([(sl 52 0 1 1), (i 4), (ku32i 0), (ki32i 0), (ku32i 0)] ++ rp 256 (ku8i 0))⟩ 396 true 0),
  (162, .cells ⟨L, 2, [(p 50 0), (p 53 0)]⟩ 330 true 0),
  (163, .cells ⟨(M (O (ku32i 1)) (N (ki32i 0) (O (sl 1439 0 4 4)) L)), 5, [(i 4), (ku32i 0), (ki32i 0), (ku32i 0), (.slice none 0 0)]⟩ 303 true 0),
  (164, .cells ⟨(N (i 0) (N (i 0) (N (i 0) (N (i 0) (N (i 0) (N (i 0) (O (i 0)) L) (O (i 0))) (N (i 0) (O (i 0)) (O (i 0)))) (N (i 0) (N (i 0) (O (i 0)) (O (i 0))) (N (i 0) (O (i 0)) (O (i 0))))) (N (i 0) (N (i 0) (N (i 0) (O (i 0)) (O (i 0))) (N (i 0) (O (i 0)) (O (i 0)))) (N (i 0) (N (i 0) (O (i 0)) (O (i 0))) (N (i 0) (O (i 0)) (O (i 0)))))) (N (i 0) (N (i 0) (N (i 0) (N (i 0) (O (i 0)) (O (i 0))) (N (i 0) (O (i 0)) (O (i 0)))) (N (i 0) (N (i 0) (O (i 0)) (O (i 0))) (N (i 0) (O (i 0)) (O (i 0))))) (N (i 0) (N (i 0) (N (i 0) (O (i 0)) (O (i 0))) (N (i 0) (O (i 0)) (O (i 0)))) (N (i 0) (N (i 0) (O (i 0)) (O (i 0))) (N (i 0) (O (i 0)) (O (i 0))))))), 64, [(i 0)]⟩ 3 true 0),
  (165, .cells ⟨L, 1, [(sl 164 0 64 64)]⟩ 332 true 0),
  (247, .cells ⟨L, 4, [(i 0)]⟩ 3 true 0),
  (248, .cells ⟨L, 3, [(sl 247 0 4 4), (i 0), (i 0)]⟩ 383 true 0),
  (249, .cells ⟨(N (j 0) (N (j 0) (O (j 0)) L) (O (j 0))), 4, [(i 0)]⟩ 3 true 0),
  (250, .cells ⟨L, 4, [(p 248 0), (sl 249 0 4 4), (i 0), (i 0)]⟩ 233 true 0),
  (251, .cells ⟨(M (N ff (O (i 4)) L) (N tt (O (i 4)) L)), 6, [(i 0), ff, ff, (i 0), (i 0), (i 0)]⟩ 337 true 0),
  (252, .cells ⟨(M (O (ku32i 1)) (N (ki32i 0) (O (sl 829 0 2 2)) L)), 5, [(i 2), (ku32i 0), (ki32i 0), (ku32i 0), (.slice none 0 0)]⟩ 303 true 0),
  (253, .cells ⟨L, 6, [(p 165 0), (p 33 0), (p 250 0), (p 251 0), (p 252 0), (i 1)]⟩ 131 true 0),
  (254, .cells ⟨L, 64, [(i 0)]⟩ 3 true 0),
  (255, .map [⟨(i 0), tt, 0⟩] 1),
  (256, .cells ⟨(M (M (O (i 1)) L) L), 4, [(sl 254 0 64 64), (mp 255), (.slice none 0 0), (i 0)]⟩ 261 true 0),
  (257, .map [⟨(i 0), (ag [(i 2), (i 1), (i 0)]), 0⟩] 1),
  (258, .cells ⟨L, 2, [(p 256 0), (mp 257)]⟩ 236 true 0),
  (259, .cells ⟨L, 2, [(i 4), (p 258 0)]⟩ 140 true 0),
  (260, .map [] 1),
  (261, .cells ⟨(O (sl 695 0 1 1)), 2, [(.slice none 0 0), (mp 260)]⟩ 143 true 0),
  (262, .cells ⟨(N (j 0) (O (j 0)) (O (j 0))), 768, [(j 0), (j 0), (j 0)]⟩ 346 true 0),
  (263, .cells ⟨(N (j 0) (O (j 0)) (O (i 0))), 3, [(j 0), (j 0), (i 0)]⟩ 348 true 0),
  (264, .cells ⟨L, 2, [(sl 262 0 256 256), (sl 263 0 1 1)]⟩ 341 true 0),
  (265, .cells ⟨(N (j 0) (O (j 0)) (O (j 0))), 768, [(j 0), (j 0), (j 0)]⟩ 346 true 0),
  (266, .cells ⟨(N (j 0) (O (j 0)) (O (i 0))), 192, [(j 0), (j 0), (i 0)]⟩ 348 true 0),
  (267, .cells ⟨L, 2, [(sl 265 0 256 256), (sl 266 0 64 64)]⟩ 341 true 0),
  (268, .cells ⟨(O (i 1)), 256, [(i 0)]⟩ 3 true 0),
  (269, .map [] 1),
  (270, .cells ⟨(M (M (O (i 1)) L) (O (sl 1620 0 1 1))), 4, [(sl 268 0 256 256), (mp 269), (.slice none 0 0), (i 0)]⟩ 261 true 0),
  (271, .map [] 1),
  (272, .cells ⟨(M L (M (N (i 1) L (M (M (M (M (M (O (i 0)) L) L) L) L) L)) L)), 516, ([(p 264 0), (p 267 0), (p 270 0), (mp 271)] ++ rp 512 (i 0))⟩ 252 true 0),
  (273, .map [⟨(i 0), (sl 1463 0 1 1), 0⟩] 1),
  (274, .cells ⟨L, 6, [(p 259 0), (p 33 0), (p 253 0), (p 261 0), (p 272 0), (mp 273)]⟩ 81 true 0),
  (280, .cells ⟨L, 7, [(i 4), (i 64), (i 1), (i 0), (p 274 0), (p 301 0), (p 303 0)]⟩ 31 true 0),
  (290, .cells ⟨(O (j 0)), 4096, [(i 0)]⟩ 3 true 0),
  (292, .cells ⟨L, 3, [(p 296 0), (p 299 0), (sl 290 0 4096 4096)]⟩ 180 true 0),
  (294, .cells ⟨L, 4096, [(i 0)]⟩ 3 true 0),
  (295, .map [⟨(i 0), tt, 0⟩] 1),
  (296, .cells ⟨(M (M (O (i 1)) L) L), 4, [(sl 294 0 4096 4096), (mp 295), (.slice none 0 0), (i 0)]⟩ 261 true 0),
  (297, .cells ⟨(N (j 0) (O (j 0)) (O (i 4096))), 12288, [(j 0), (j 0), (j 0)]⟩ 346 true 0),
  (298, .cells ⟨(M (M L (M (M (M (M (M (M (M (M (M (M (M L (O (i 0))) L) L) L) L) L) L) L) L) L) L)) (M (M (M (M (M (M (M (M (M (M (M (M L (O (i 0))) L) L) L) L) L) L) L) L) L) L) (M (M (M (M (M (M (M (M (M (M (M L (O (i 1))) L) L) L) L) L) L) L) L) L) L))), 12291, [(j 0), (j 0), (i 0)]⟩ 348 true 0),
  (299, .cells ⟨L, 2, [(sl 297 0 4096 4096), (sl 298 0 4097 4097)]⟩ 341 true 0),
  (300, .map [⟨(i 0), (ag [(i 0), (.slice none 0 0), (i 0)]), 0⟩] 1),
  (301, .cells ⟨L, 2, [(p 292 0), (mp 300)]⟩ 168 true 0),
  (302, .map [] 0),
  (303, .cells ⟨L, 1, [(mp 302)]⟩ 94 true 0),
  (465, .cells ⟨(N (i 0) (N (i 1152921504606846976) (O (st [])) L) (O (.slice none 0 0))), 4, [(i 0), (i 0), (.slice none 0 0), (st [])]⟩ 36 true 0),
  (695, .cells ⟨(N (i 1) (N (i 0) (O (i 2)) L) (N (i 1) (O (i 0)) L)), 5, [(i 1), (i 0), (i 1), (i 1), (i 0)]⟩ 71 true 5),
  (771, .cells ⟨(N (i 0) (N (i 1) (O (st [])) L) (O (.slice none 0 0))), 4, [(i 0), (i 0), (.slice none 0 0), (st [])]⟩ 36 true 0),
  (829, .cells ⟨(N (i 1) (O (i 0)) L), 2, [(i 0)]⟩ 307 true 0),
  (1405, .map [] 0),
  (1406, .cells ⟨L, 2, [(mp 1405), (i 64)]⟩ 370 true 0),
  (1439, .cells ⟨(O (i 1)), 4, [(i 0)]⟩ 307 true 0),
  (1463, .cells ⟨L, 1, [(i 0)]⟩ 3 true 1),
  (1620, .cells ⟨L, 1, [(i 0)]⟩ 3 true 1),
  (1648, .cells ⟨L, 1, [(i 1)]⟩ 3 true 1),
  (1649, .cells ⟨(N (i 0) (N (i 0) (O (st [])) L) (O (sl 1648 0 1 1))), 4, [(i 0), (i 0), (.slice none 0 0), (st [])]⟩ 36 true 0),
  (1973, .cells ⟨(N (i 0) (N (i 2305843009213693952) (O (st [])) L) (O (.slice none 0 0))), 4, [(i 0), (i 0), (.slice none 0 0), (st [])]⟩ 36 true 0),
  (1974, .cells ⟨L, 5, [(i 7), (i 2305843009213693952), (i 10), (i 8), (st [])]⟩ 23 true 0),
  (1975, .cells ⟨L, 4, [(i 0), (i 0), (.slice none 0 0), (st [])]⟩ 36 true 0),
  (1983, .cells ⟨(O (fn (.func 26) [] [])), 1, [.nilFunc]⟩ 53 true 0),
  (1987, .cells ⟨L, 5, [(i 7), (i 2305843009213693952), (i 10), (i 8), (st [])]⟩ 23 true 0),
  (1988, .cells ⟨L, 4, [(i 0), (i 0), (.slice none 0 0), (st [])]⟩ 36 true 0),
  (1989, .cells ⟨(N (i 2) (N (i 0) (O (i 2305843009213693952)) L) (O (i 0))), 4, [(i 0), (i 0), (i 0), (i 0)]⟩ 135 true 0),
  (2021, .cells ⟨(N (i 20) (O (i 0)) (O (i 1048575))), 3, [(i 0), (i 0), (i 0)]⟩ 257 true 0),
  (2036, .cells ⟨(N (i 0) (O (i 0)) (O (i 1048575))), 3, [(i 0), (i 0), (i 0)]⟩ 257 true 0)], 2037⟩
noncomputable def s7500 : SM := ⟨⟨⟨26, 122, false, none⟩, mkT [(0, (p 280 0)), (1, (ag [(i 7), (i 2305843009213693952), (i 10), (i 8), (st [])])), (3, (p 1987 0)), (7, (i 0)), (15, (p 1987 1)), (31, (p 1987 2)), (63, (p 1987 1)), (47, (p 280 0)), (99, (p 274 0)), (27, (p 280 5)), (75, (p 301 0)), (5, (i 1152921504606846976)), (9, (i 0)), (33, (p 1987 3)), (65, (i 0)), (97, (p 280 0)), (73, (p 280 0)), (13, (tu [(i 1152921504606846976), (i 0)])), (29, (p 1987 1)), (61, (p 280 5)), (4, (p 1988 0)), (8, (i 0)), (16, (i 2305843009213693952)), (96, (p 280 0)), (24, (tu [(i 0), (i 0), (i 9)])), (36, (p 280 0)), (6, (i 0)), (10, (i 0)), (98, (p 280 4)), (14, (p 280 0)), (62, (p 301 0))], [regAt (cd 26 [1, 1, 1, 1, 1, 1, 0]) 4, .code (cd 26 [1, 1, 1, 1, 1, 1, 1])], [], false⟩, [⟨⟨5, 32, false, none⟩, mkT [(0, (p 280 0)), (1, (ag [(i 7), (i 2305843009213693952), (i 10), (i 8), (st [])])), (3, (p 1974 0)), (23, tt), (27, (p 1983 0)), (5, (p 1983 0)), (29, (p 280 0)), (4, (p 1975 0)), (24, tt), (28, (fn (.func 26) [] [])), (30, (ag [(i 7), (i 2305843009213693952), (i 10), (i 8), (st [])]))], [regAt (cd 5 [1, 1, 1, 1, 0]) 4, .code .ret], [], false⟩,
  ⟨⟨9, 81, false, none⟩, mkT [(0, ff), (1, (p 280 0)), (3, (p 465 0)), (15, (p 280 0)), (31, (p 280 0)), (23, (p 280 0)), (11, (ag [(i 4), (i 64), (i 1), (i 0)])), (19, (p 465 1)), (27, (p 465 1)), (5, (p 1649 0)), (17, (ag [(i 0), (i 1152921504606846976), (.slice none 0 0), (st [])])), (33, (i 2305843009213693952)), (25, (ag [(i 0), (i 0), (sl 1648 0 1 1), (st [])])), (13, (p 280 0)), (21, (ag [(i 3), (i 1152921504606846976), (i 1), (i 0), (st [])])), (29, (ag [(i 5), (i 1152921504606846976), (i 0), (i 0), (st [])])), (2, (i 0)), (4, (p 771 0)), (16, (ag [(i 1), (i 2), (i 0), (i 0), (st [])])), (32, (p 1973 1)), (24, (ag [(i 12), (i 0), (i 0), (i 0), (st [])])), (12, (tu [(p 280 0), (i 0)])), (20, (i 1152921504606846976)), (28, (i 1152921504606846976)), (6, (p 1973 0)), (10, (tu [(p 280 0), (i 0)])), (18, (p 280 0)), (34, (ag [(i 7), (i 2305843009213693952), (i 10), (i 8), (st [])])), (26, (p 280 0)), (14, (i 0)), (22, (ag [(i 0), (i 1), (.slice none 0 0), (st [])])), (30, (ag [(i 0), (i 2305843009213693952), (.slice none 0 0), (st [])]))], [regAt (cd 9 [1, 1, 1, 1, 1, 1, 0]) 4, .code (cd 9 [1, 1, 1, 1, 1, 1, 1])], [], false⟩,
  ⟨⟨3, 41, false, none⟩, mkT [(0, (ag [(oq 0), (oq 1), (oq 2), (oq 3), (oq 4)])), (1, (p 0 0)), (3, p0), (7, (ag [(i 16), (i 0), (.slice none 0 0), (st [])])), (15, tt), (31, tt), (23, (ag [(i 0), (.slice none 0 0), (.slice none 0 0), (.slice none 0 0), (.slice none 0 0), (.slice none 0 0)])), (11, (ag [(oq 0), (oq 1), (oq 2), (oq 3), (oq 4)])), (19, (ag [(i 0), (.slice none 0 0), (.slice none 0 0), (.slice none 0 0), (.slice none 0 0), (.slice none 0 0)])), (35, (ag [(i 0), (i 0), (i 0), (i 0)])), (27, tt), (5, p0), (9, tt), (17, p0), (33, tt), (25, tt), (13, (ag [(i 16), (i 0), (.slice none 0 0), (st [])])), (21, tt), (37, tt), (29, (ag [(i 0), (i 0), (i 0), (i 0)])), (2, ff), (4, (p 1 0)), (8, (ag [(i 16), (i 0), (.slice none 0 0), (st [])])), (16, tt), (32, tt), (24, (ag [(i 0), (.slice none 0 0), (.slice none 0 0), (.slice none 0 0), (.slice none 0 0), (.slice none 0 0)])), (12, (ag [(i 16), (i 0), (.slice none 0 0), (st [])])), (20, tt), (36, tt), (28, p0), (6, (ag [(oq 0), (oq 1), (oq 2), (oq 3), (oq 4)])), (10, tt), (18, (ag [(i 0), (.slice none 0 0), (.slice none 0 0), (.slice none 0 0), (.slice none 0 0), (.slice none 0 0)])), (34, (ag [(i 0), (i 0), (i 0), (i 0)])), (26, tt), (14, tt), (22, tt), (38, tt), (30, (ag [(i 0), (i 0), (i 0), (i 0)]))], [regAt (cd 3 [1, 1, 1, 0]) 34, .code .ret], [], false⟩], mkT [(0, .cells ⟨L, 5, [(oq 0), (oq 1), (oq 2), (oq 3), (oq 4)]⟩ 23 true 0),
  (1, .cells ⟨L, 7, [(i 0), (i 0), (i 0), (i 0), p0, p0, p0]⟩ 31 true 0),
  (29, .cells ⟨(N (ku32i 1) (N (ki32i 0) (O (i 1)) L) (M (O (p 1406 0)) L)), 24, [(ku32i 0), (ki32i 0), (ku32i 0), (i 0), p0, p0]⟩ 208 true 0),
  (33, .cells ⟨(M (M L (O (i 1))) (M (O (i 3)) L)), 9, [(p 37 0), (p 162 0), (sl 29 0 4 4), (i 64), (i 0), (i 0), (i 0), (i 0), (p 163 0)]⟩ 137 true 0),
  (35, .cells ⟨(O (i 1)), 8, [(i 0), (i 0)]⟩ 274 true 0),
  (36, .map [⟨(i 1), (i 1), 0⟩] 1),
  (37, .cells ⟨L, 2, [(sl 35 0 4 4), (mp 36)]⟩ 277 true 0),
  (38, .cells ⟨(N (j 0) (N (i 2) (N (i 0) (O (i 0)) L) (O (i 2))) (N (i 1) (O (i 3)) (O (i 1)))), 8, [(i 0)]⟩ 3 true 0),
  (50, .cells ⟨(O (sl 38 4 3 4)), 2, [(sl 38 4 0 4), (sl 38 0 4 4)]⟩ 392 true 0),
  (52, .cells ⟨(O (ku64i 14)), 1, [(ku64i 0)]⟩ 324 true 0),
  (53, .cells ⟨L, 261, ([(sl 52 0 1 1), (i 4), (ku32i 0), (ki32i 0), (ku32i 0)] ++ rp 256 (ku8i 0))⟩ 396 true 0),
  (162, .cells ⟨L, 2, [(p 50 0), (p 53 0)]⟩ 330 true 0),
  (163, .cells ⟨(M (O (ku32i 1)) (N (ki32i 0) (O (sl 1439 0 4 4)) L)), 5, [(i 4), (ku32i 0), (ki32i 0), (ku32i 0), (.slice none 0 0)]⟩ 303 true 0),
  (164, .cells ⟨(N (i 0) (N (i 0) (N (i 0) (N (i 0) (N (i 0) (N (i 0) (O (i 0)) L) (O (i 0))) (N (i 0) (O (i 0)) (O (i 0)))) (N (i 0) (N (i 0) (O (i 0)) (O (i 0))) (N (i 0) (O (i 0)) (O (i 0))))) (N (i 0) (N (i 0) (N (i 0) (O (i 0)) (O (i 0))) (N (i 0) (O (i 0)) (O (i 0)))) (N (i 0) (N (i 0) (O (i 0)) (O (i 0))) (N (i 0) (O (i 0)) (O (i 0)))))) (N (i 0) (N (i 0) (N (i 0) (N (i 0) (O (i 0)) (O (i 0))) (N (i 0) (O (i 0)) (O (i 0)))) (N (i 0) (N (i 0) (O (i 0)) (O (i 0))) (N (i 0) (O (i 0)) (O (i 0))))) (N (i 0) (N (i 0) (N (i 0) (O (i 0)) (O (i 0))) (N (i 0) (O (i 0)) (O (i 0)))) (N (i 0) (N (i 0) (O (i 0)) (O (i 0))) (N (i 0) (O (i 0)) (O (i 0))))))), 64, [(i 0)]⟩ 3 true 0),
  (165, .cells ⟨L, 1, [(sl 164 0 64 64)]⟩ 332 true 0),
  (247, .cells ⟨L, 4, [(i 0)]⟩ 3 true 0),
  (248, .cells ⟨L, 3, [(sl 247 0 4 4), (i 0), (i 0)]⟩ 383 true 0),
  (249, .cells ⟨(N (j 0) (N (j 0) (O (j 0)) L) (O (j 0))), 4, [(i 0)]⟩ 3 true 0),
  (250, .cells ⟨L, 4, [(p 248 0), (sl 249 0 4 4), (i 0), (i 0)]⟩ 233 true 0),
  (251, .cells ⟨(M (N ff (O (i 4)) L) (N tt (O (i 4)) L)), 6, [(i 0), ff, ff, (i 0), (i 0), (i 0)]⟩ 337 true 0),
  (252, .cells ⟨(M (O (ku32i 1)) (N (ki32i 0) (O (sl 829 0 2 2)) L)), 5, [(i 2), (ku32i 0), (ki32i 0), (ku32i 0), (.slice none 0 0)]⟩ 303 true 0),
  (253, .cells ⟨L, 6, [(p 165 0), (p 33 0), (p 250 0), (p 251 0), (p 252 0), (i 1)]⟩ 131 true 0),
  (254, .cells ⟨L, 64, [(i 0)]⟩ 3 true 0),
  (255, .map [⟨(i 0), tt, 0⟩] 1),
  (256, .cells ⟨(M (M (O (i 1)) L) L), 4, [(sl 254 0 64 64), (mp 255), (.slice none 0 0), (i 0)]⟩ 261 true 0),
  (257, .map [⟨(i 0), (ag [(i 2), (i 1), (i 0)]), 0⟩] 1),
  (258, .cells ⟨L, 2, [(p 256 0), (mp 257)]⟩ 236 true 0),
  (259, .cells ⟨L, 2, [(i 4), (p 258 0)]⟩ 140 true 0),
  (260, .map [] 1),
  (261, .cells ⟨(O (sl 695 0 1 1)), 2, [(.slice none 0 0), (mp 260)]⟩ 143 true 0),
  (262, .cells ⟨(N (j 0) (O (j 0)) (O (j 0))), 768, [(j 0), (j 0), (j 0)]⟩ 346 true 0),
  (263, .cells ⟨(N (j 0) (O (j 0)) (O (i 0))), 3, [(j 0), (j 0), (i 0)]⟩ 348 true 0),
  (264, .cells ⟨L, 2, [(sl 262 0 256 256), (sl 263 0 1 1)]⟩ 341 true 0),
  (265, .cells ⟨(N (j 0) (O (j 0)) (O (j 0))), 768, [(j 0), (j 0), (j 0)]⟩ 346 true 0),
  (266, .cells ⟨(N (j 0) (O (j 0)) (O (i 0))), 192, [(j 0), (j 0), (i 0)]⟩ 348 true 0),
  (267, .cells ⟨L, 2, [(sl 265 0 256 256), (sl 266 0 64 64)]⟩ 341 true 0),
  (268, .cells ⟨(O (i 1)), 256, [(i 0)]⟩ 3 true 0),
  (269, .map [] 1),
  (270, .cells ⟨(M (M (O (i 1)) L) (O (sl 1620 0 1 1))), 4, [(sl 268 0 256 256), (mp 269), (.slice none 0 0), (i 0)]⟩ 261 true 0),
  (271, .map [] 1),
  (272, .cells ⟨(M L (M (N (i 1) L (M (M (M (M (M (O (i 0)) L) L) L) L) L)) L)), 516, ([(p 264 0), (p 267 0), (p 270 0), (mp 271)] ++ rp 512 (i 0))⟩ 252 true 0),
  (273, .map [⟨(i 0), (sl 1463 1 0 0), 0⟩] 1),
  (274, .cells ⟨L, 6, [(p 259 0), (p 33 0), (p 253 0), (p 261 0), (p 272 0), (mp 273)]⟩ 81 true 0),
  (280, .cells ⟨L, 7, [(i 4), (i 64), (i 1), (i 0), (p 274 0), (p 301 0), (p 303 0)]⟩ 31 true 0),
  (290, .cells ⟨(O (j 0)), 4096, [(i 0)]⟩ 3 true 0),
  (292, .cells ⟨L, 3, [(p 296 0), (p 299 0), (sl 290 0 4096 4096)]⟩ 180 true 0),
  (294, .cells ⟨L, 4096, [(i 0)]⟩ 3 true 0),
  (295, .map [⟨(i 0), tt, 0⟩] 1),
  (296, .cells ⟨(M (M (O (i 1)) L) L), 4, [(sl 294 0 4096 4096), (mp 295), (.slice none 0 0), (i 0)]⟩ 261 true 0),
  (297, .cells ⟨(N (j 0) (O (j 0)) (O (i 4096))), 12288, [(j 0), (j 0), (j 0)]⟩ 346 true 0),
  (298, .cells ⟨(M (M L (M (M (M (M (M (M (M (M (M (M (M L (O (i 0))) L) L) L) L) L) L) L) L) L) L)) (M (M (M (M (M (M (M (M (M (M (M (M L (O (i 0))) L) L) L) L) L) L) L) L) L) L) (M (M (M (M (M (M (M (M (M (M (M L (O (i 1))) L) L) L) L) L) L) L) L) L) L))), 12291, [(j 0), (j 0), (i 0)]⟩ 348 true 0),
  (299, .cells ⟨L, 2, [(sl 297 0 4096 4096), (sl 298 0 4097 4097)]⟩ 341 true 0),
  (300, .map [⟨(i 0), (ag [(i 0), (sl 2657 0 1 1), (i 10)]), 0⟩] 1),
  (301, .cells ⟨L, 2, [(p 292 0), (mp 300)]⟩ 168 true 0),
  (302, .map [] 0),
  (303, .cells ⟨L, 1, [(mp 302)]⟩ 94 true 0),
  (465, .cells ⟨(N (i 0) (N (i 1152921504606846976) (O (st [])) L) (O (.slice none 0 0))), 4, [(i 0), (i 0), (.slice none 0 0), (st [])]⟩ 36 true 0),
  (695, .cells ⟨(N (i 1) (N (i 0) (O (i 2)) L) (N (i 1) (O (i 0)) L)), 5, [(i 1), (i 0), (i 1), (i 1), (i 0)]⟩ 71 true 5),
  (771, .cells ⟨(N (i 0) (N (i 1) (O (st [])) L) (O (.slice none 0 0))), 4, [(i 0), (i 0), (.slice none 0 0), (st [])]⟩ 36 true 0),
  (829, .cells ⟨(N (i 1) (O (i 0)) L), 2, [(i 0)]⟩ 307 true 0),
  (1405, .map [] 0),
  (1406, .cells ⟨L, 2, [(mp 1405), (i 64)]⟩ 370 true 0),
  (1439, .cells ⟨(O (i 1)), 4, [(i 0)]⟩ 307 true 0),
  (1463, .cells ⟨L, 1, [(i 0)]⟩ 3 true 1),
  (1620, .cells ⟨L, 1, [(i 0)]⟩ 3 true 1),
  (1648, .cells ⟨L, 1, [(i 1)]⟩ 3 true 1),
  (1649, .cells ⟨(N (i 0) (N (i 0) (O (st [])) L) (O (sl 1648 0 1 1))), 4, [(i 0), (i 0), (.slice none 0 0), (st [])]⟩ 36 true 0),
  (1973, .cells ⟨(N (i 0) (N (i 2305843009213693952) (O (st [])) L) (O (.slice none 0 0))), 4, [(i 0), (i 0), (.slice none 0 0), (st [])]⟩ 36 true 0),
  (1974, .cells ⟨L, 5, [(i 7), (i 2305843009213693952), (i 10), (i 8), (st [])]⟩ 23 true 0),
  (1975, .cells ⟨L, 4, [(i 0), (i 0), (.slice none 0 0), (st [])]⟩ 36 true 0),
  (1983, .cells ⟨(O (fn (.func 26) [] [])), 1, [.nilFunc]⟩ 53 true 0),
  (1987, .cells ⟨L, 5, [(i 7), (i 2305843009213693952), (i 10), (i 8), (st [])]⟩ 23 true 0),
  (1988, .cells ⟨L, 4, [(i 0), (i 0), (.slice none 0 0), (st [])]⟩ 36 true 0),
  (2657, .cells ⟨(O (i 0)), 1, [(i 0)]⟩ 3 true 0)], 2669⟩
theorem first : on1 (startGo Tryz.prog xTab 100000 2500 .leaf 3 #[.agg #[.chan (some 0), .chan (some 1), .chan (some 2), .chan (some 3), .chan (some 4)]]) (thin [0] [[0, 3, 7, 15, 19, 9, 17, 2, 8, 16, 6, 10, 18], [0, 3, 23, 19, 35, 27, 5, 17, 33, 25, 21, 2, 4, 24, 20, 36, 6, 18, 34, 26, 22], [0, 1, 3, 11, 9, 4, 12, 10], [0, 1, 3, 23, 27, 5, 29, 4, 24, 28, 30], [0, 1, 3, 15, 23, 11, 19, 17, 13, 21, 2, 4, 16, 24, 12, 20, 10, 18, 14, 22], [0, 1, 3, 7, 15, 31, 23, 11, 19, 35, 27, 5, 9, 17, 33, 25, 13, 21, 37, 29, 2, 4, 8, 16, 32, 24, 12, 20, 36, 28, 6, 10, 18, 34, 26, 14, 22, 38, 30]] [0, 1, 29, 33, 35, 36, 37, 38, 50, 52, 53, 162, 163, 164, 165, 247, 248, 249, 250, 251, 252, 253, 254, 255, 256, 257, 258, 259, 260, 261, 262, 263, 264, 265, 266, 267, 268, 269, 270, 271, 272, 273, 274, 280, 290, 292, 294, 295, 296, 297, 298, 299, 300, 301, 302, 303, 465, 695, 771, 772, 773, 781, 785, 786, 808, 829, 880, 881]) = some s2500 := by kernel_rfl
theorem to_s5000 : on1 (sgo Tryz.prog xTab 100000 2500 s2500) (thin [0, 3, 7, 15, 31, 23, 39, 11, 19, 35, 27, 43, 5, 9, 17, 33, 25, 41, 13, 21, 37, 29, 2, 4, 8, 16, 32, 24, 40, 12, 20, 36, 28, 44, 6, 10, 18, 34, 26, 42, 14, 22, 38, 30] [[0, 1, 15, 11, 5, 4], [0, 1, 5, 9, 4, 10], [0, 1, 11, 5, 13, 4, 12, 10, 14], [0, 1, 3, 15, 4, 16, 14], [0, 1, 3, 23, 27, 5, 29, 4, 24, 28, 30], [0, 1, 3, 15, 31, 23, 11, 19, 27, 5, 17, 33, 25, 13, 21, 29, 2, 4, 16, 32, 24, 12, 20, 28, 6, 10, 18, 34, 26, 14, 22, 30], [0, 1, 3, 7, 15, 31, 23, 11, 19, 35, 27, 5, 9, 17, 33, 25, 13, 21, 37, 29, 2, 4, 8, 16, 32, 24, 12, 20, 36, 28, 6, 10, 18, 34, 26, 14, 22, 38, 30]] [0, 1, 29, 33, 35, 36, 37, 38, 50, 52, 53, 162, 163, 164, 165, 247, 248, 249, 250, 251, 252, 253, 254, 255, 256, 257, 258, 259, 260, 261, 262, 263, 264, 265, 266, 267, 268, 269, 270, 271, 272, 273, 274, 280, 290, 292, 294, 295, 296, 297, 298, 299, 300, 301, 302, 303, 465, 695, 771, 829, 1405, 1406, 1439, 1463, 1620, 1648, 1649, 1973, 1974, 1975, 1983, 1987, 1988, 1989, 2021, 2036]) = some s5000 := by kernel_rfl
theorem to_s7500 : on1 (sgo Tryz.prog xTab 100000 2500 s5000) (thin [0, 1, 3, 7, 15, 31, 63, 47, 99, 27, 75, 5, 9, 33, 65, 97, 73, 13, 29, 61, 4, 8, 16, 96, 24, 36, 6, 10, 98, 14, 62] [[0, 1, 3, 23, 27, 5, 29, 4, 24, 28, 30], [0, 1, 3, 15, 31, 23, 11, 19, 27, 5, 17, 33, 25, 13, 21, 29, 2, 4, 16, 32, 24, 12, 20, 28, 6, 10, 18, 34, 26, 14, 22, 30], [0, 1, 3, 7, 15, 31, 23, 11, 19, 35, 27, 5, 9, 17, 33, 25, 13, 21, 37, 29, 2, 4, 8, 16, 32, 24, 12, 20, 36, 28, 6, 10, 18, 34, 26, 14, 22, 38, 30]] [0, 1, 29, 33, 35, 36, 37, 38, 50, 52, 53, 162, 163, 164, 165, 247, 248, 249, 250, 251, 252, 253, 254, 255, 256, 257, 258, 259, 260, 261, 262, 263, 264, 265, 266, 267, 268, 269, 270, 271, 272, 273, 274, 280, 290, 292, 294, 295, 296, 297, 298, 299, 300, 301, 302, 303, 465, 695, 771, 829, 1405, 1406, 1439, 1463, 1620, 1648, 1649, 1973, 1974, 1975, 1983, 1987, 1988, 2657]) = some s7500 := by kernel_rfl
theorem last : endOf (srun Tryz.prog xTab 100000 s7500) = some (3, (.bool true)) := by kernel_rfl
theorem hP : Tryz.prog.follows .mixedOrders = true := by kernel_rfl
theorem rest (θ : Nat → Value) : Ends θ Tryz.prog s2500 3 (.bool true) := Ends.cut xTab_ok noNG hP to_s5000 (Ends.cut xTab_ok noNG hP to_s7500 (Ends.done xTab_ok noNG hP last))
end Ex.exMaR
end Go.Proofs.YtlcdaalalihaiaaGreat

/- Law 43: ManorNone, run by calculation. -/
namespace Go.Proofs.YtlcdaalalihaiaaGreat
open Go Go.RowKit
namespace Ex
/-- The law at inputs that are not looked into. -/
theorem law43_None (k a b c : Int) (s : ByteArray) (w : World) : Calls Tryz.prog 3 #[.agg #[.int .i64 k, .int .i64 a, .int .i64 b, .int .i64 c, .string s]] w fun e w' => e = .returned (.bool true) ∧ Below w.heap.size w w' := by
  let θ : Nat → Value := fun j => if j = 0 then .int .i64 k else if j = 1 then .int .i64 a else if j = 2 then .int .i64 b else if j = 3 then .int .i64 c else .string s
  have h5 : Rl θ glR [.chan (some 0), .chan (some 1), .chan (some 2), .chan (some 3), .chan (some 4)] [.int .i64 k, .int .i64 a, .int .i64 b, .int .i64 c, .string s] :=
    Rl.cons (.opq 0 ⟨rfl, rfl⟩) (Rl.cons (.opq 1 ⟨rfl, rfl⟩) (Rl.cons (.opq 2 ⟨rfl, rfl⟩) (Rl.cons (.opq 3 ⟨rfl, rfl⟩) (Rl.cons (.opq 4 ⟨rfl, rfl⟩) Rl.nil))))
  have ha : Ra θ glR #[.agg #[.chan (some 0), .chan (some 1), .chan (some 2), .chan (some 3), .chan (some 4)]] #[.agg #[.int .i64 k, .int .i64 a, .int .i64 b, .int .i64 c, .string s]] := (Rl.cons (.ofAgg h5.arr) Rl.nil).arr
  have hk : Known θ .leaf w := ⟨Nat.zero_le _, fun k o h => by cases h⟩
  refine (Ends.calls (θ := θ) xTab_ok noNG (by kernel_rfl) exMaR.first (exMaR.rest θ) ha hk).mono ?_
  rintro e w' ⟨v', ρ', h', nx', rfl, hv, hh⟩
  cases hv
  exact ⟨rfl, own_below hh⟩
end Ex
end Go.Proofs.YtlcdaalalihaiaaGreat

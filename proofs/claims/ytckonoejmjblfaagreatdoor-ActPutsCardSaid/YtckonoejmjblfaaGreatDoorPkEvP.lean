/- What a call comes to, with enough rounds; loops, arguments. -/
import Derived.Test.YtckonoejmjblfaaGreatDoorPkFacts
import Derived.Test.YtckonoejmjblfaaGreatDoorPkEvLM
set_option linter.unusedVariables false
set_option maxRecDepth 100000
namespace Go.Proofs.YtckonoejmjblfaaGreatDoor.Ev
open Go Go.RowKit

/-- From some number on. -/
def Evt (p : Nat → Prop) : Prop := ∃ n0, ∀ n, n0 ≤ n → p n
theorem Evt.imp {p q : Nat → Prop} (h : Evt p) (k : ∀ n, p n → q n) : Evt q := by
  obtain ⟨a, h⟩ := h
  exact ⟨a, fun n hn => k n (h n hn)⟩
theorem Evt.and {p q : Nat → Prop} (h : Evt p) (k : Evt q) : Evt fun n => p n ∧ q n := by
  obtain ⟨a, h⟩ := h
  obtain ⟨b, k⟩ := k
  exact ⟨max a b, fun n hn => ⟨h n (by omega), k n (by omega)⟩⟩
theorem Evt.of {p : Nat → Prop} (h : ∀ n, p n) : Evt p := ⟨0, fun n _ => h n⟩
theorem Evt.ge (m : Nat) : Evt fun n => m ≤ n := ⟨m, fun _ h => h⟩
theorem Evt.all {α : Type} {p : α → Nat → Prop} : ∀ (l : List α), (∀ x ∈ l, Evt (p x)) → Evt fun n => ∀ x ∈ l, p x n
  | [], _ => ⟨0, fun n _ x hx => by simp at hx⟩
  | a :: l, h => ((h a (by simp)).and (Evt.all l fun x hx => h x (by simp [hx]))).imp fun n ⟨h1, h2⟩ x hx => by
    rcases List.mem_cons.1 hx with rfl | hx
    · exact h1
    · exact h2 x hx

/-- The configuration of this program. -/
def cfRo : Nat → Bool := fun f => [0, 1, 2, 3, 4, 5, 6, 7, 8, 9, 10, 11, 12, 13, 14, 15, 16, 17, 18, 19, 20, 21, 22, 23, 24, 25, 26, 27, 28, 31, 32, 33, 34, 35, 36, 37, 38, 39, 40, 41, 42, 43, 44, 45, 46, 47, 48, 49, 50, 51, 52, 53, 54, 56, 57, 58, 59, 60, 61, 62, 63, 64, 65, 66, 67, 68, 69, 70, 71, 72, 73, 74, 75, 76, 77, 78, 80, 84, 85, 86, 87, 88, 89, 90, 91, 92, 93, 94, 95, 96, 97, 98, 99, 100, 101, 102, 103, 104, 105, 106, 109, 110, 111, 112, 113, 114, 115, 116, 117, 118, 119, 120, 121, 122, 123, 124, 125, 126, 127, 129, 131, 132, 133, 134, 135, 136, 137, 138, 139, 140, 141, 142, 143, 144, 145, 147, 149, 150, 151, 152, 153, 154, 155, 156, 157, 158, 159, 160, 161, 162, 163, 164, 165, 166, 167, 168, 169, 170, 171, 172, 173, 174, 175, 176, 177, 178, 179, 180, 181, 182, 183, 184, 185, 186, 187, 188, 189, 190, 191, 192, 193, 194, 195, 196, 197, 198, 199, 200, 201, 202, 203, 204, 205, 206, 207, 208, 209, 211, 212, 213, 214, 215, 216, 218, 220, 221, 222, 223, 224, 225, 226, 227, 228, 229, 230, 234, 236, 237, 238, 239, 240, 241, 242, 243, 244, 245, 246, 247, 248, 249, 250, 251, 253, 254, 255, 256, 257, 258, 261, 262, 263, 264, 265, 266, 267, 269, 270, 271, 272, 273, 274, 275, 276, 277, 278, 279, 280, 281, 282, 283, 284, 285, 286, 288, 289, 290, 291, 292, 293, 294, 296, 297, 298, 299, 300, 301, 302, 303, 304, 305, 306, 307, 308, 309, 310, 311, 312, 313, 314, 315, 316, 317, 318, 319].contains f
def cfEsc : Nat → Nat → Bool := fun f s => [(11, 16), (28, 14), (29, 5), (38, 8), (47, 3), (54, 6), (87, 9), (126, 2), (136, 5), (154, 2), (181, 3), (183, 7), (229, 3), (232, 1), (241, 9), (242, 11), (269, 3)].contains (f, s)
def cfFrz : Nat → Nat → Bool := fun f s => [(129, 2), (129, 3), (183, 3)].contains (f, s)
def cfLazy : Nat → Nat → Bool := fun f s => [(56, 3), (166, 3), (268, 9), (28, 12), (28, 14), (210, 6), (296, 29), (183, 8)].contains (f, s)
def cfLoads : Nat → Nat → List Nat := fun f r => ([((28, 14), [10]), ((210, 6), [2]), ((183, 8), [100022])] : List ((Nat × Nat) × List Nat)).findSome? (fun p => if p.1 = (f, r) then some p.2 else none) |>.getD []
def cfFul : Nat → Bool := fun f => [252, 231].contains f
def cfMut : Nat → Nat → Bool := fun f s => [(230, 38), (94, 15), (233, 10), (73, 55)].contains (f, s)
def cfIter : Nat → List W → Option (Nat × List (List C)) := fun f cs => if f = 270 then iterBack 3 cs else none
def cf : Cfg := { iter := cfIter, ro := cfRo, esc := cfEsc, frz := cfFrz, lazy := cfLazy, loads := cfLoads, shr := cfMut, ful := cfFul, keep := fun f r => ([((230, 5), [0, 1, 5, 6]), ((4, 9), [5, 6, 7, 8, 10, 51]), ((4, 5), [5, 6, 7, 8, 9, 40]), ((9, 17), [1, 4, 5, 6, 7]), ((9, 10), [1, 4, 5]), ((9, 4), [1, 3]), ((12, 21), [1, 6, 7, 8]), ((12, 15), [1, 6]), ((12, 9), [1, 4]), ((12, 4), [1, 3]), ((15, 23), [3, 7, 8, 9, 10]), ((15, 18), [3, 7, 8]), ((15, 12), [1, 3, 5]), ((15, 3), [1, 3, 4]), ((16, 4), [2, 3, 5]), ((22, 2), [0, 3]), ((24, 6), [5, 15, 16, 17, 28, 42]), ((25, 4), [0, 3]), ((26, 4), [9, 10, 11]), ((27, 3), [0, 3, 4]), ((28, 6), [3, 5, 6, 66]), ((30, 2), [0, 3, 18]), ((31, 4), [0, 1, 5]), ((34, 2), [0, 3]), ((35, 3), [0, 3, 4]), ((36, 4), [0, 3]), ((37, 2), [0, 15, 16, 17]), ((38, 22), [1, 8, 63, 64, 65]), ((38, 12), [0, 1, 5, 39, 40, 41]), ((39, 1), [0, 8, 9, 10]), ((40, 15), [0, 90, 91, 92]), ((40, 9), [0, 5, 74, 75, 76]), ((42, 4), [0, 3]), ((43, 6), [0, 3]), ((46, 4), [19]), ((47, 8), [0, 3, 4, 15, 16]), ((58, 12), [5, 6, 7, 8]), ((60, 3), [0, 1, 5, 6]), ((62, 3), [0, 3, 4]), ((63, 2), [0, 1, 5, 21]), ((64, 4), [0, 1, 5]), ((65, 4), [0, 1, 5]), ((67, 5), [0, 3, 5, 6, 52]), ((68, 4), [0, 1, 12, 13]), ((69, 4), [0, 1, 12, 13]), ((70, 4), [1, 2, 15, 16, 17]), ((72, 14), [3, 7]), ((72, 9), [3, 6]), ((72, 4), [0, 3, 5]), ((73, 15), [3, 9, 10, 12, 27, 28, 29, 42, 43, 44, 55]), ((73, 8), [3, 7, 27, 28, 29, 55]), ((78, 26), [0, 2, 7, 8, 10, 11, 12, 13, 14]), ((79, 0), [0]), ((84, 4), [0, 1, 5]), ((85, 2), [0, 1, 5]), ((87, 38), [7, 8, 9]), ((91, 5), [1, 5, 13, 14, 15, 27]), ((96, 4), [0, 3]), ((97, 6), [0, 3]), ((99, 2), [0, 1, 2, 7]), ((100, 2), [0, 1, 7, 8]), ((101, 2), [0, 1, 7, 8]), ((103, 2), [0, 1, 7, 8]), ((110, 2), [0, 2, 56]), ((111, 0), [0, 46]), ((115, 2), [0, 1, 5]), ((116, 3), [0, 1, 5, 6, 24]), ((117, 4), [0, 1, 5]), ((120, 3), [0, 1]), ((120, 1), [0, 1]), ((121, 18), [0, 1, 8, 9]), ((121, 9), [0, 1, 7]), ((121, 3), [0, 1, 7]), ((122, 3), [0, 1, 4, 5, 6]), ((124, 4), [1, 2, 15, 16, 17]), ((127, 8), [1, 5, 7, 10, 44, 45, 59]), ((130, 9), [0, 3, 4, 5]), ((130, 4), [0, 3]), ((133, 6), [0, 3, 5, 6]), ((133, 2), [0, 3]), ((134, 4), [0, 1, 5, 6, 7, 24]), ((140, 2), [0, 1, 5]), ((143, 2), [0, 5, 6]), ((144, 6), [0, 1, 5]), ((153, 3), [0, 3, 4]), ((157, 4), [0, 5, 6, 7]), ((158, 2), [0, 1, 7, 8]), ((164, 6), [0, 1, 2, 6]), ((164, 2), [0, 1, 2, 6, 40]), ((168, 6), [1, 2, 4, 5, 40]), ((170, 2), [1, 2, 4, 48]), ((171, 23), [1, 3, 4, 8, 10, 15]), ((171, 15), [1, 3, 4, 8, 10, 97]), ((177, 4), [0, 1, 12, 13]), ((178, 4), [1, 2, 15, 16, 17]), ((185, 2), [0, 1, 2, 3, 4, 10, 11]), ((187, 2), [0, 1, 9, 10, 11]), ((193, 5), [0, 1, 5, 6, 28]), ((199, 5), [0, 1, 5, 6]), ((200, 1), [0, 1]), ((201, 2), [0, 2, 4]), ((202, 1), [0, 1]), ((203, 1), [0, 1]), ((206, 2), [2, 4]), ((209, 2), [0, 1, 5]), ((210, 2), [1, 2, 5, 6]), ((224, 3), [1, 3, 4]), ((227, 3), [1, 5, 8, 9, 10, 22]), ((230, 9), [0, 1, 5, 6, 7, 26, 27, 28, 38]), ((239, 4), [0, 1, 2, 3, 8, 9]), ((239, 1), [0, 1, 2, 3, 8]), ((240, 8), [0, 3, 8, 9, 12]), ((240, 4), [0, 3, 8, 9, 10, 11]), ((241, 5), [0, 1, 8, 9, 10, 11]), ((243, 2), [0, 8, 9]), ((244, 20), [0, 1, 2, 3, 9, 10, 12]), ((244, 14), [0, 1, 2, 3, 9, 10, 11]), ((244, 5), [0, 1, 2, 3, 9, 10]), ((244, 3), [0, 1, 2, 3, 9, 10]), ((245, 5), [0, 1, 4, 11, 12]), ((245, 3), [0, 1, 4, 11, 12]), ((246, 15), [0, 1, 4, 12, 13]), ((246, 13), [0, 1, 4, 12, 13]), ((246, 5), [0, 1, 4, 12, 13]), ((246, 3), [0, 1, 4, 12, 13]), ((250, 2), [0, 1, 5]), ((251, 2), [0, 1, 7, 8]), ((253, 5), [0, 3, 4]), ((258, 15), [0, 1, 5, 6, 7, 8, 9, 10]), ((260, 3), [3, 4]), ((261, 3), [5, 11, 12, 13, 19]), ((262, 2), [0, 1, 7, 8]), ((263, 5), [4, 5, 21, 22, 23]), ((265, 3), [1, 2, 4, 5, 47]), ((268, 8), [7, 8]), ((270, 1), [0, 1, 3]), ((276, 1), [0, 2, 3, 4, 10]), ((283, 38), [175]), ((283, 29), [0, 7, 8, 9, 14, 15, 16]), ((283, 25), [0, 7, 8, 9, 14, 15]), ((283, 12), [0, 7, 8, 9, 12]), ((283, 5), [0, 7, 8, 9]), ((286, 11), [0, 1, 5, 6, 7, 8, 10]), ((286, 5), [0, 1, 5, 6, 7, 8, 9]), ((288, 5), [0, 4, 5]), ((289, 14), [1, 2, 4, 10, 11, 12, 13]), ((291, 2), [0, 1, 7, 8]), ((294, 8), [4, 6, 7, 8]), ((294, 3), [0, 4, 5])] : List ((Nat × Nat) × List Nat)).findSome? (fun p => if p.1 = (f, r) then some p.2 else none) |>.getD [], res := fun f => ([(9, [2]), (12, [2]), (16, [4]), (22, [2]), (25, [2]), (26, [2]), (28, [2, 3, 4]), (31, [4]), (34, [2]), (36, [2]), (42, [2]), (43, [2]), (46, [2]), (47, [2]), (64, [4]), (65, [4]), (67, [2, 3, 4]), (68, [4]), (69, [4]), (70, [6]), (72, [4]), (73, [4, 5]), (79, []), (84, [4]), (85, [4]), (96, [2]), (97, [2]), (100, [4]), (101, [4]), (103, [4]), (115, [4]), (117, [4]), (121, [4, 5, 6]), (124, [6]), (130, [2]), (133, [2]), (143, [2]), (144, [4]), (153, [2]), (158, [4]), (170, [2, 3]), (171, [8, 9]), (177, [4]), (178, [6]), (185, []), (187, [4]), (199, [4]), (201, [2, 3]), (209, [4]), (224, [2]), (244, [8]), (250, [4]), (251, [4]), (258, [4]), (260, [2]), (262, [4]), (263, [2, 3]), (270, []), (276, []), (283, [4]), (286, [4]), (288, [2, 3]), (291, [4])] : List (Nat × List Nat)).findSome? (fun p => if p.1 = f then some p.2 else none) |>.getD [] }
@[simp] theorem cf_ro : cf.ro = cfRo := rfl
@[simp] theorem cf_esc : cf.esc = cfEsc := rfl
@[simp] theorem cf_frz : cf.frz = cfFrz := rfl
@[simp] theorem cf_loads : cf.loads = cfLoads := rfl
@[simp] theorem cf_lazy : cf.lazy = cfLazy := rfl
@[simp] theorem cf_ful : cf.ful = cfFul := rfl
@[simp] theorem cf_mut : cf.shr = cfMut := rfl
@[simp] theorem cf_iter : cf.iter = cfIter := rfl
@[simp] theorem cfRo_3 : cfRo 3 = true := rfl
@[simp] theorem cfRo_4 : cfRo 4 = true := rfl
@[simp] theorem cfRo_5 : cfRo 5 = true := rfl
@[simp] theorem cfRo_6 : cfRo 6 = true := rfl
@[simp] theorem cfRo_7 : cfRo 7 = true := rfl
@[simp] theorem cfRo_8 : cfRo 8 = true := rfl
@[simp] theorem cfRo_9 : cfRo 9 = true := rfl
@[simp] theorem cfRo_10 : cfRo 10 = true := rfl
@[simp] theorem cfRo_11 : cfRo 11 = true := rfl
@[simp] theorem cfRo_12 : cfRo 12 = true := rfl
@[simp] theorem cfRo_13 : cfRo 13 = true := rfl
@[simp] theorem cfRo_14 : cfRo 14 = true := rfl
@[simp] theorem cfRo_15 : cfRo 15 = true := rfl
@[simp] theorem cfRo_16 : cfRo 16 = true := rfl
@[simp] theorem cfRo_17 : cfRo 17 = true := rfl
@[simp] theorem cfRo_18 : cfRo 18 = true := rfl
@[simp] theorem cfRo_19 : cfRo 19 = true := rfl
@[simp] theorem cfRo_20 : cfRo 20 = true := rfl
@[simp] theorem cfRo_21 : cfRo 21 = true := rfl
@[simp] theorem cfRo_22 : cfRo 22 = true := rfl
@[simp] theorem cfRo_23 : cfRo 23 = true := rfl
@[simp] theorem cfRo_24 : cfRo 24 = true := rfl
@[simp] theorem cfRo_25 : cfRo 25 = true := rfl
@[simp] theorem cfRo_26 : cfRo 26 = true := rfl
@[simp] theorem cfRo_27 : cfRo 27 = true := rfl
@[simp] theorem cfRo_28 : cfRo 28 = true := rfl
@[simp] theorem cfRo_29 : cfRo 29 = false := rfl
@[simp] theorem cfRo_30 : cfRo 30 = false := rfl
@[simp] theorem cfRo_31 : cfRo 31 = true := rfl
@[simp] theorem cfRo_32 : cfRo 32 = true := rfl
@[simp] theorem cfRo_33 : cfRo 33 = true := rfl
@[simp] theorem cfRo_34 : cfRo 34 = true := rfl
@[simp] theorem cfRo_35 : cfRo 35 = true := rfl
@[simp] theorem cfRo_36 : cfRo 36 = true := rfl
@[simp] theorem cfRo_37 : cfRo 37 = true := rfl
@[simp] theorem cfRo_38 : cfRo 38 = true := rfl
@[simp] theorem cfRo_39 : cfRo 39 = true := rfl
@[simp] theorem cfRo_40 : cfRo 40 = true := rfl
@[simp] theorem cfRo_41 : cfRo 41 = true := rfl
@[simp] theorem cfRo_42 : cfRo 42 = true := rfl
@[simp] theorem cfRo_43 : cfRo 43 = true := rfl
@[simp] theorem cfRo_44 : cfRo 44 = true := rfl
@[simp] theorem cfRo_45 : cfRo 45 = true := rfl
@[simp] theorem cfRo_46 : cfRo 46 = true := rfl
@[simp] theorem cfRo_47 : cfRo 47 = true := rfl
@[simp] theorem cfRo_48 : cfRo 48 = true := rfl
@[simp] theorem cfRo_49 : cfRo 49 = true := rfl
@[simp] theorem cfRo_50 : cfRo 50 = true := rfl
@[simp] theorem cfRo_51 : cfRo 51 = true := rfl
@[simp] theorem cfRo_52 : cfRo 52 = true := rfl
@[simp] theorem cfRo_53 : cfRo 53 = true := rfl
@[simp] theorem cfRo_54 : cfRo 54 = true := rfl
@[simp] theorem cfRo_55 : cfRo 55 = false := rfl
@[simp] theorem cfRo_56 : cfRo 56 = true := rfl
@[simp] theorem cfRo_57 : cfRo 57 = true := rfl
@[simp] theorem cfRo_58 : cfRo 58 = true := rfl
@[simp] theorem cfRo_59 : cfRo 59 = true := rfl
@[simp] theorem cfRo_60 : cfRo 60 = true := rfl
@[simp] theorem cfRo_61 : cfRo 61 = true := rfl
@[simp] theorem cfRo_62 : cfRo 62 = true := rfl
@[simp] theorem cfRo_63 : cfRo 63 = true := rfl
@[simp] theorem cfRo_64 : cfRo 64 = true := rfl
@[simp] theorem cfRo_65 : cfRo 65 = true := rfl
@[simp] theorem cfRo_66 : cfRo 66 = true := rfl
@[simp] theorem cfRo_67 : cfRo 67 = true := rfl
@[simp] theorem cfRo_68 : cfRo 68 = true := rfl
@[simp] theorem cfRo_69 : cfRo 69 = true := rfl
@[simp] theorem cfRo_70 : cfRo 70 = true := rfl
@[simp] theorem cfRo_71 : cfRo 71 = true := rfl
@[simp] theorem cfRo_72 : cfRo 72 = true := rfl
@[simp] theorem cfRo_73 : cfRo 73 = true := rfl
@[simp] theorem cfRo_74 : cfRo 74 = true := rfl
@[simp] theorem cfRo_75 : cfRo 75 = true := rfl
@[simp] theorem cfRo_76 : cfRo 76 = true := rfl
@[simp] theorem cfRo_77 : cfRo 77 = true := rfl
@[simp] theorem cfRo_78 : cfRo 78 = true := rfl
@[simp] theorem cfRo_79 : cfRo 79 = false := rfl
@[simp] theorem cfRo_80 : cfRo 80 = true := rfl
@[simp] theorem cfRo_81 : cfRo 81 = false := rfl
@[simp] theorem cfRo_82 : cfRo 82 = false := rfl
@[simp] theorem cfRo_83 : cfRo 83 = false := rfl
@[simp] theorem cfRo_84 : cfRo 84 = true := rfl
@[simp] theorem cfRo_85 : cfRo 85 = true := rfl
@[simp] theorem cfRo_86 : cfRo 86 = true := rfl
@[simp] theorem cfRo_87 : cfRo 87 = true := rfl
@[simp] theorem cfRo_88 : cfRo 88 = true := rfl
@[simp] theorem cfRo_89 : cfRo 89 = true := rfl
@[simp] theorem cfRo_90 : cfRo 90 = true := rfl
@[simp] theorem cfRo_91 : cfRo 91 = true := rfl
@[simp] theorem cfRo_92 : cfRo 92 = true := rfl
@[simp] theorem cfRo_93 : cfRo 93 = true := rfl
@[simp] theorem cfRo_94 : cfRo 94 = true := rfl
@[simp] theorem cfRo_95 : cfRo 95 = true := rfl
@[simp] theorem cfRo_96 : cfRo 96 = true := rfl
@[simp] theorem cfRo_97 : cfRo 97 = true := rfl
@[simp] theorem cfRo_98 : cfRo 98 = true := rfl
@[simp] theorem cfRo_99 : cfRo 99 = true := rfl
@[simp] theorem cfRo_100 : cfRo 100 = true := rfl
@[simp] theorem cfRo_101 : cfRo 101 = true := rfl
@[simp] theorem cfRo_102 : cfRo 102 = true := rfl
@[simp] theorem cfRo_103 : cfRo 103 = true := rfl
@[simp] theorem cfRo_104 : cfRo 104 = true := rfl
@[simp] theorem cfRo_105 : cfRo 105 = true := rfl
@[simp] theorem cfRo_106 : cfRo 106 = true := rfl
@[simp] theorem cfRo_107 : cfRo 107 = false := rfl
@[simp] theorem cfRo_108 : cfRo 108 = false := rfl
@[simp] theorem cfRo_109 : cfRo 109 = true := rfl
@[simp] theorem cfRo_110 : cfRo 110 = true := rfl
@[simp] theorem cfRo_111 : cfRo 111 = true := rfl
@[simp] theorem cfRo_112 : cfRo 112 = true := rfl
@[simp] theorem cfRo_113 : cfRo 113 = true := rfl
@[simp] theorem cfRo_114 : cfRo 114 = true := rfl
@[simp] theorem cfRo_115 : cfRo 115 = true := rfl
@[simp] theorem cfRo_116 : cfRo 116 = true := rfl
@[simp] theorem cfRo_117 : cfRo 117 = true := rfl
@[simp] theorem cfRo_118 : cfRo 118 = true := rfl
@[simp] theorem cfRo_119 : cfRo 119 = true := rfl
@[simp] theorem cfRo_120 : cfRo 120 = true := rfl
@[simp] theorem cfRo_121 : cfRo 121 = true := rfl
@[simp] theorem cfRo_122 : cfRo 122 = true := rfl
@[simp] theorem cfRo_123 : cfRo 123 = true := rfl
@[simp] theorem cfRo_124 : cfRo 124 = true := rfl
@[simp] theorem cfRo_125 : cfRo 125 = true := rfl
@[simp] theorem cfRo_126 : cfRo 126 = true := rfl
@[simp] theorem cfRo_127 : cfRo 127 = true := rfl
@[simp] theorem cfRo_128 : cfRo 128 = false := rfl
@[simp] theorem cfRo_129 : cfRo 129 = true := rfl
@[simp] theorem cfRo_130 : cfRo 130 = false := rfl
@[simp] theorem cfRo_131 : cfRo 131 = true := rfl
@[simp] theorem cfRo_132 : cfRo 132 = true := rfl
@[simp] theorem cfRo_133 : cfRo 133 = true := rfl
@[simp] theorem cfRo_134 : cfRo 134 = true := rfl
@[simp] theorem cfRo_135 : cfRo 135 = true := rfl
@[simp] theorem cfRo_136 : cfRo 136 = true := rfl
@[simp] theorem cfRo_137 : cfRo 137 = true := rfl
@[simp] theorem cfRo_138 : cfRo 138 = true := rfl
@[simp] theorem cfRo_139 : cfRo 139 = true := rfl
@[simp] theorem cfRo_140 : cfRo 140 = true := rfl
@[simp] theorem cfRo_141 : cfRo 141 = true := rfl
@[simp] theorem cfRo_142 : cfRo 142 = true := rfl
@[simp] theorem cfRo_143 : cfRo 143 = true := rfl
@[simp] theorem cfRo_144 : cfRo 144 = true := rfl
@[simp] theorem cfRo_145 : cfRo 145 = true := rfl
@[simp] theorem cfRo_146 : cfRo 146 = false := rfl
@[simp] theorem cfRo_147 : cfRo 147 = true := rfl
@[simp] theorem cfRo_148 : cfRo 148 = false := rfl
@[simp] theorem cfRo_149 : cfRo 149 = true := rfl
@[simp] theorem cfRo_150 : cfRo 150 = true := rfl
@[simp] theorem cfRo_151 : cfRo 151 = true := rfl
@[simp] theorem cfRo_152 : cfRo 152 = true := rfl
@[simp] theorem cfRo_153 : cfRo 153 = true := rfl
@[simp] theorem cfRo_154 : cfRo 154 = true := rfl
@[simp] theorem cfRo_155 : cfRo 155 = true := rfl
@[simp] theorem cfRo_156 : cfRo 156 = true := rfl
@[simp] theorem cfRo_157 : cfRo 157 = true := rfl
@[simp] theorem cfRo_158 : cfRo 158 = true := rfl
@[simp] theorem cfRo_159 : cfRo 159 = true := rfl
@[simp] theorem cfRo_160 : cfRo 160 = true := rfl
@[simp] theorem cfRo_161 : cfRo 161 = true := rfl
@[simp] theorem cfRo_162 : cfRo 162 = true := rfl
@[simp] theorem cfRo_163 : cfRo 163 = true := rfl
@[simp] theorem cfRo_164 : cfRo 164 = true := rfl
@[simp] theorem cfRo_165 : cfRo 165 = true := rfl
@[simp] theorem cfRo_166 : cfRo 166 = true := rfl
@[simp] theorem cfRo_167 : cfRo 167 = true := rfl
@[simp] theorem cfRo_168 : cfRo 168 = true := rfl
@[simp] theorem cfRo_169 : cfRo 169 = true := rfl
@[simp] theorem cfRo_170 : cfRo 170 = true := rfl
@[simp] theorem cfRo_171 : cfRo 171 = true := rfl
@[simp] theorem cfRo_172 : cfRo 172 = true := rfl
@[simp] theorem cfRo_173 : cfRo 173 = true := rfl
@[simp] theorem cfRo_174 : cfRo 174 = true := rfl
@[simp] theorem cfRo_175 : cfRo 175 = true := rfl
@[simp] theorem cfRo_176 : cfRo 176 = true := rfl
@[simp] theorem cfRo_177 : cfRo 177 = true := rfl
@[simp] theorem cfRo_178 : cfRo 178 = true := rfl
@[simp] theorem cfRo_179 : cfRo 179 = true := rfl
@[simp] theorem cfRo_180 : cfRo 180 = true := rfl
@[simp] theorem cfRo_181 : cfRo 181 = true := rfl
@[simp] theorem cfRo_182 : cfRo 182 = true := rfl
@[simp] theorem cfRo_183 : cfRo 183 = true := rfl
@[simp] theorem cfRo_184 : cfRo 184 = true := rfl
@[simp] theorem cfRo_185 : cfRo 185 = true := rfl
@[simp] theorem cfRo_186 : cfRo 186 = true := rfl
@[simp] theorem cfRo_187 : cfRo 187 = true := rfl
@[simp] theorem cfRo_188 : cfRo 188 = true := rfl
@[simp] theorem cfRo_189 : cfRo 189 = true := rfl
@[simp] theorem cfRo_190 : cfRo 190 = true := rfl
@[simp] theorem cfRo_191 : cfRo 191 = true := rfl
@[simp] theorem cfRo_192 : cfRo 192 = true := rfl
@[simp] theorem cfRo_193 : cfRo 193 = true := rfl
@[simp] theorem cfRo_194 : cfRo 194 = true := rfl
@[simp] theorem cfRo_195 : cfRo 195 = true := rfl
@[simp] theorem cfRo_196 : cfRo 196 = true := rfl
@[simp] theorem cfRo_197 : cfRo 197 = true := rfl
@[simp] theorem cfRo_198 : cfRo 198 = true := rfl
@[simp] theorem cfRo_199 : cfRo 199 = true := rfl
@[simp] theorem cfRo_200 : cfRo 200 = true := rfl
@[simp] theorem cfRo_201 : cfRo 201 = true := rfl
@[simp] theorem cfRo_202 : cfRo 202 = true := rfl
@[simp] theorem cfRo_203 : cfRo 203 = true := rfl
@[simp] theorem cfRo_204 : cfRo 204 = true := rfl
@[simp] theorem cfRo_205 : cfRo 205 = true := rfl
@[simp] theorem cfRo_206 : cfRo 206 = true := rfl
@[simp] theorem cfRo_207 : cfRo 207 = true := rfl
@[simp] theorem cfRo_208 : cfRo 208 = true := rfl
@[simp] theorem cfRo_209 : cfRo 209 = true := rfl
@[simp] theorem cfRo_210 : cfRo 210 = false := rfl
@[simp] theorem cfRo_211 : cfRo 211 = true := rfl
@[simp] theorem cfRo_212 : cfRo 212 = true := rfl
@[simp] theorem cfRo_213 : cfRo 213 = true := rfl
@[simp] theorem cfRo_214 : cfRo 214 = true := rfl
@[simp] theorem cfRo_215 : cfRo 215 = true := rfl
@[simp] theorem cfRo_216 : cfRo 216 = true := rfl
@[simp] theorem cfRo_217 : cfRo 217 = false := rfl
@[simp] theorem cfRo_218 : cfRo 218 = true := rfl
@[simp] theorem cfRo_219 : cfRo 219 = false := rfl
@[simp] theorem cfRo_220 : cfRo 220 = true := rfl
@[simp] theorem cfRo_221 : cfRo 221 = true := rfl
@[simp] theorem cfRo_222 : cfRo 222 = true := rfl
@[simp] theorem cfRo_223 : cfRo 223 = true := rfl
@[simp] theorem cfRo_224 : cfRo 224 = true := rfl
@[simp] theorem cfRo_225 : cfRo 225 = true := rfl
@[simp] theorem cfRo_226 : cfRo 226 = true := rfl
@[simp] theorem cfRo_227 : cfRo 227 = true := rfl
@[simp] theorem cfRo_228 : cfRo 228 = true := rfl
@[simp] theorem cfRo_229 : cfRo 229 = true := rfl
@[simp] theorem cfRo_230 : cfRo 230 = true := rfl
@[simp] theorem cfRo_231 : cfRo 231 = false := rfl
@[simp] theorem cfRo_232 : cfRo 232 = false := rfl
@[simp] theorem cfRo_233 : cfRo 233 = false := rfl
@[simp] theorem cfRo_234 : cfRo 234 = true := rfl
@[simp] theorem cfRo_235 : cfRo 235 = false := rfl
@[simp] theorem cfRo_236 : cfRo 236 = true := rfl
@[simp] theorem cfRo_237 : cfRo 237 = true := rfl
@[simp] theorem cfRo_238 : cfRo 238 = true := rfl
@[simp] theorem cfRo_239 : cfRo 239 = true := rfl
@[simp] theorem cfRo_240 : cfRo 240 = true := rfl
@[simp] theorem cfRo_241 : cfRo 241 = true := rfl
@[simp] theorem cfRo_242 : cfRo 242 = true := rfl
@[simp] theorem cfRo_243 : cfRo 243 = true := rfl
@[simp] theorem cfRo_244 : cfRo 244 = true := rfl
@[simp] theorem cfRo_245 : cfRo 245 = true := rfl
@[simp] theorem cfRo_246 : cfRo 246 = true := rfl
@[simp] theorem cfRo_247 : cfRo 247 = true := rfl
@[simp] theorem cfRo_248 : cfRo 248 = true := rfl
@[simp] theorem cfRo_249 : cfRo 249 = true := rfl
@[simp] theorem cfRo_250 : cfRo 250 = true := rfl
@[simp] theorem cfRo_251 : cfRo 251 = true := rfl
@[simp] theorem cfRo_252 : cfRo 252 = false := rfl
@[simp] theorem cfRo_253 : cfRo 253 = true := rfl
@[simp] theorem cfRo_254 : cfRo 254 = true := rfl
@[simp] theorem cfRo_255 : cfRo 255 = true := rfl
@[simp] theorem cfRo_256 : cfRo 256 = true := rfl
@[simp] theorem cfRo_257 : cfRo 257 = true := rfl
@[simp] theorem cfRo_258 : cfRo 258 = true := rfl
@[simp] theorem cfRo_259 : cfRo 259 = false := rfl
@[simp] theorem cfRo_260 : cfRo 260 = false := rfl
@[simp] theorem cfRo_261 : cfRo 261 = true := rfl
@[simp] theorem cfRo_262 : cfRo 262 = true := rfl
@[simp] theorem cfRo_263 : cfRo 263 = true := rfl
@[simp] theorem cfRo_264 : cfRo 264 = true := rfl
@[simp] theorem cfRo_265 : cfRo 265 = true := rfl
@[simp] theorem cfRo_266 : cfRo 266 = true := rfl
@[simp] theorem cfRo_267 : cfRo 267 = true := rfl
@[simp] theorem cfRo_268 : cfRo 268 = false := rfl
@[simp] theorem cfRo_269 : cfRo 269 = true := rfl
@[simp] theorem cfRo_270 : cfRo 270 = true := rfl
@[simp] theorem cfRo_271 : cfRo 271 = true := rfl
@[simp] theorem cfRo_272 : cfRo 272 = true := rfl
@[simp] theorem cfRo_273 : cfRo 273 = true := rfl
@[simp] theorem cfRo_274 : cfRo 274 = true := rfl
@[simp] theorem cfRo_275 : cfRo 275 = true := rfl
@[simp] theorem cfRo_276 : cfRo 276 = true := rfl
@[simp] theorem cfRo_277 : cfRo 277 = true := rfl
@[simp] theorem cfRo_278 : cfRo 278 = true := rfl
@[simp] theorem cfRo_279 : cfRo 279 = true := rfl
@[simp] theorem cfRo_280 : cfRo 280 = true := rfl
@[simp] theorem cfRo_281 : cfRo 281 = true := rfl
@[simp] theorem cfRo_282 : cfRo 282 = true := rfl
@[simp] theorem cfRo_283 : cfRo 283 = true := rfl
@[simp] theorem cfRo_284 : cfRo 284 = true := rfl
@[simp] theorem cfRo_285 : cfRo 285 = true := rfl
@[simp] theorem cfRo_286 : cfRo 286 = true := rfl
@[simp] theorem cfRo_287 : cfRo 287 = false := rfl
@[simp] theorem cfRo_288 : cfRo 288 = true := rfl
@[simp] theorem cfRo_289 : cfRo 289 = true := rfl
@[simp] theorem cfRo_290 : cfRo 290 = true := rfl
@[simp] theorem cfRo_291 : cfRo 291 = true := rfl
@[simp] theorem cfRo_292 : cfRo 292 = true := rfl
@[simp] theorem cfRo_293 : cfRo 293 = true := rfl
@[simp] theorem cfRo_294 : cfRo 294 = true := rfl
@[simp] theorem cfRo_295 : cfRo 295 = false := rfl
@[simp] theorem cfRo_296 : cfRo 296 = true := rfl
@[simp] theorem cfRo_297 : cfRo 297 = true := rfl
@[simp] theorem cfRo_313 : cfRo 313 = true := rfl
@[simp] theorem cfFul_3 : cfFul 3 = false := rfl
@[simp] theorem cfFul_4 : cfFul 4 = false := rfl
@[simp] theorem cfFul_5 : cfFul 5 = false := rfl
@[simp] theorem cfFul_6 : cfFul 6 = false := rfl
@[simp] theorem cfFul_7 : cfFul 7 = false := rfl
@[simp] theorem cfFul_8 : cfFul 8 = false := rfl
@[simp] theorem cfFul_9 : cfFul 9 = false := rfl
@[simp] theorem cfFul_10 : cfFul 10 = false := rfl
@[simp] theorem cfFul_11 : cfFul 11 = false := rfl
@[simp] theorem cfFul_12 : cfFul 12 = false := rfl
@[simp] theorem cfFul_13 : cfFul 13 = false := rfl
@[simp] theorem cfFul_14 : cfFul 14 = false := rfl
@[simp] theorem cfFul_15 : cfFul 15 = false := rfl
@[simp] theorem cfFul_16 : cfFul 16 = false := rfl
@[simp] theorem cfFul_17 : cfFul 17 = false := rfl
@[simp] theorem cfFul_18 : cfFul 18 = false := rfl
@[simp] theorem cfFul_19 : cfFul 19 = false := rfl
@[simp] theorem cfFul_20 : cfFul 20 = false := rfl
@[simp] theorem cfFul_21 : cfFul 21 = false := rfl
@[simp] theorem cfFul_22 : cfFul 22 = false := rfl
@[simp] theorem cfFul_23 : cfFul 23 = false := rfl
@[simp] theorem cfFul_24 : cfFul 24 = false := rfl
@[simp] theorem cfFul_25 : cfFul 25 = false := rfl
@[simp] theorem cfFul_26 : cfFul 26 = false := rfl
@[simp] theorem cfFul_27 : cfFul 27 = false := rfl
@[simp] theorem cfFul_28 : cfFul 28 = false := rfl
@[simp] theorem cfFul_29 : cfFul 29 = false := rfl
@[simp] theorem cfFul_30 : cfFul 30 = false := rfl
@[simp] theorem cfFul_31 : cfFul 31 = false := rfl
@[simp] theorem cfFul_32 : cfFul 32 = false := rfl
@[simp] theorem cfFul_33 : cfFul 33 = false := rfl
@[simp] theorem cfFul_34 : cfFul 34 = false := rfl
@[simp] theorem cfFul_35 : cfFul 35 = false := rfl
@[simp] theorem cfFul_36 : cfFul 36 = false := rfl
@[simp] theorem cfFul_37 : cfFul 37 = false := rfl
@[simp] theorem cfFul_38 : cfFul 38 = false := rfl
@[simp] theorem cfFul_39 : cfFul 39 = false := rfl
@[simp] theorem cfFul_40 : cfFul 40 = false := rfl
@[simp] theorem cfFul_41 : cfFul 41 = false := rfl
@[simp] theorem cfFul_42 : cfFul 42 = false := rfl
@[simp] theorem cfFul_43 : cfFul 43 = false := rfl
@[simp] theorem cfFul_44 : cfFul 44 = false := rfl
@[simp] theorem cfFul_45 : cfFul 45 = false := rfl
@[simp] theorem cfFul_46 : cfFul 46 = false := rfl
@[simp] theorem cfFul_47 : cfFul 47 = false := rfl
@[simp] theorem cfFul_48 : cfFul 48 = false := rfl
@[simp] theorem cfFul_49 : cfFul 49 = false := rfl
@[simp] theorem cfFul_50 : cfFul 50 = false := rfl
@[simp] theorem cfFul_51 : cfFul 51 = false := rfl
@[simp] theorem cfFul_52 : cfFul 52 = false := rfl
@[simp] theorem cfFul_53 : cfFul 53 = false := rfl
@[simp] theorem cfFul_54 : cfFul 54 = false := rfl
@[simp] theorem cfFul_55 : cfFul 55 = false := rfl
@[simp] theorem cfFul_56 : cfFul 56 = false := rfl
@[simp] theorem cfFul_57 : cfFul 57 = false := rfl
@[simp] theorem cfFul_58 : cfFul 58 = false := rfl
@[simp] theorem cfFul_59 : cfFul 59 = false := rfl
@[simp] theorem cfFul_60 : cfFul 60 = false := rfl
@[simp] theorem cfFul_61 : cfFul 61 = false := rfl
@[simp] theorem cfFul_62 : cfFul 62 = false := rfl
@[simp] theorem cfFul_63 : cfFul 63 = false := rfl
@[simp] theorem cfFul_64 : cfFul 64 = false := rfl
@[simp] theorem cfFul_65 : cfFul 65 = false := rfl
@[simp] theorem cfFul_66 : cfFul 66 = false := rfl
@[simp] theorem cfFul_67 : cfFul 67 = false := rfl
@[simp] theorem cfFul_68 : cfFul 68 = false := rfl
@[simp] theorem cfFul_69 : cfFul 69 = false := rfl
@[simp] theorem cfFul_70 : cfFul 70 = false := rfl
@[simp] theorem cfFul_71 : cfFul 71 = false := rfl
@[simp] theorem cfFul_72 : cfFul 72 = false := rfl
@[simp] theorem cfFul_73 : cfFul 73 = false := rfl
@[simp] theorem cfFul_74 : cfFul 74 = false := rfl
@[simp] theorem cfFul_75 : cfFul 75 = false := rfl
@[simp] theorem cfFul_76 : cfFul 76 = false := rfl
@[simp] theorem cfFul_77 : cfFul 77 = false := rfl
@[simp] theorem cfFul_78 : cfFul 78 = false := rfl
@[simp] theorem cfFul_79 : cfFul 79 = false := rfl
@[simp] theorem cfFul_80 : cfFul 80 = false := rfl
@[simp] theorem cfFul_81 : cfFul 81 = false := rfl
@[simp] theorem cfFul_82 : cfFul 82 = false := rfl
@[simp] theorem cfFul_83 : cfFul 83 = false := rfl
@[simp] theorem cfFul_84 : cfFul 84 = false := rfl
@[simp] theorem cfFul_85 : cfFul 85 = false := rfl
@[simp] theorem cfFul_86 : cfFul 86 = false := rfl
@[simp] theorem cfFul_87 : cfFul 87 = false := rfl
@[simp] theorem cfFul_88 : cfFul 88 = false := rfl
@[simp] theorem cfFul_89 : cfFul 89 = false := rfl
@[simp] theorem cfFul_90 : cfFul 90 = false := rfl
@[simp] theorem cfFul_91 : cfFul 91 = false := rfl
@[simp] theorem cfFul_92 : cfFul 92 = false := rfl
@[simp] theorem cfFul_93 : cfFul 93 = false := rfl
@[simp] theorem cfFul_94 : cfFul 94 = false := rfl
@[simp] theorem cfFul_95 : cfFul 95 = false := rfl
@[simp] theorem cfFul_96 : cfFul 96 = false := rfl
@[simp] theorem cfFul_97 : cfFul 97 = false := rfl
@[simp] theorem cfFul_98 : cfFul 98 = false := rfl
@[simp] theorem cfFul_99 : cfFul 99 = false := rfl
@[simp] theorem cfFul_100 : cfFul 100 = false := rfl
@[simp] theorem cfFul_101 : cfFul 101 = false := rfl
@[simp] theorem cfFul_102 : cfFul 102 = false := rfl
@[simp] theorem cfFul_103 : cfFul 103 = false := rfl
@[simp] theorem cfFul_104 : cfFul 104 = false := rfl
@[simp] theorem cfFul_105 : cfFul 105 = false := rfl
@[simp] theorem cfFul_106 : cfFul 106 = false := rfl
@[simp] theorem cfFul_107 : cfFul 107 = false := rfl
@[simp] theorem cfFul_108 : cfFul 108 = false := rfl
@[simp] theorem cfFul_109 : cfFul 109 = false := rfl
@[simp] theorem cfFul_110 : cfFul 110 = false := rfl
@[simp] theorem cfFul_111 : cfFul 111 = false := rfl
@[simp] theorem cfFul_112 : cfFul 112 = false := rfl
@[simp] theorem cfFul_113 : cfFul 113 = false := rfl
@[simp] theorem cfFul_114 : cfFul 114 = false := rfl
@[simp] theorem cfFul_115 : cfFul 115 = false := rfl
@[simp] theorem cfFul_116 : cfFul 116 = false := rfl
@[simp] theorem cfFul_117 : cfFul 117 = false := rfl
@[simp] theorem cfFul_118 : cfFul 118 = false := rfl
@[simp] theorem cfFul_119 : cfFul 119 = false := rfl
@[simp] theorem cfFul_120 : cfFul 120 = false := rfl
@[simp] theorem cfFul_121 : cfFul 121 = false := rfl
@[simp] theorem cfFul_122 : cfFul 122 = false := rfl
@[simp] theorem cfFul_123 : cfFul 123 = false := rfl
@[simp] theorem cfFul_124 : cfFul 124 = false := rfl
@[simp] theorem cfFul_125 : cfFul 125 = false := rfl
@[simp] theorem cfFul_126 : cfFul 126 = false := rfl
@[simp] theorem cfFul_127 : cfFul 127 = false := rfl
@[simp] theorem cfFul_128 : cfFul 128 = false := rfl
@[simp] theorem cfFul_129 : cfFul 129 = false := rfl
@[simp] theorem cfFul_130 : cfFul 130 = false := rfl
@[simp] theorem cfFul_131 : cfFul 131 = false := rfl
@[simp] theorem cfFul_132 : cfFul 132 = false := rfl
@[simp] theorem cfFul_133 : cfFul 133 = false := rfl
@[simp] theorem cfFul_134 : cfFul 134 = false := rfl
@[simp] theorem cfFul_135 : cfFul 135 = false := rfl
@[simp] theorem cfFul_136 : cfFul 136 = false := rfl
@[simp] theorem cfFul_137 : cfFul 137 = false := rfl
@[simp] theorem cfFul_138 : cfFul 138 = false := rfl
@[simp] theorem cfFul_139 : cfFul 139 = false := rfl
@[simp] theorem cfFul_140 : cfFul 140 = false := rfl
@[simp] theorem cfFul_141 : cfFul 141 = false := rfl
@[simp] theorem cfFul_142 : cfFul 142 = false := rfl
@[simp] theorem cfFul_143 : cfFul 143 = false := rfl
@[simp] theorem cfFul_144 : cfFul 144 = false := rfl
@[simp] theorem cfFul_145 : cfFul 145 = false := rfl
@[simp] theorem cfFul_146 : cfFul 146 = false := rfl
@[simp] theorem cfFul_147 : cfFul 147 = false := rfl
@[simp] theorem cfFul_148 : cfFul 148 = false := rfl
@[simp] theorem cfFul_149 : cfFul 149 = false := rfl
@[simp] theorem cfFul_150 : cfFul 150 = false := rfl
@[simp] theorem cfFul_151 : cfFul 151 = false := rfl
@[simp] theorem cfFul_152 : cfFul 152 = false := rfl
@[simp] theorem cfFul_153 : cfFul 153 = false := rfl
@[simp] theorem cfFul_154 : cfFul 154 = false := rfl
@[simp] theorem cfFul_155 : cfFul 155 = false := rfl
@[simp] theorem cfFul_156 : cfFul 156 = false := rfl
@[simp] theorem cfFul_157 : cfFul 157 = false := rfl
@[simp] theorem cfFul_158 : cfFul 158 = false := rfl
@[simp] theorem cfFul_159 : cfFul 159 = false := rfl
@[simp] theorem cfFul_160 : cfFul 160 = false := rfl
@[simp] theorem cfFul_161 : cfFul 161 = false := rfl
@[simp] theorem cfFul_162 : cfFul 162 = false := rfl
@[simp] theorem cfFul_163 : cfFul 163 = false := rfl
@[simp] theorem cfFul_164 : cfFul 164 = false := rfl
@[simp] theorem cfFul_165 : cfFul 165 = false := rfl
@[simp] theorem cfFul_166 : cfFul 166 = false := rfl
@[simp] theorem cfFul_167 : cfFul 167 = false := rfl
@[simp] theorem cfFul_168 : cfFul 168 = false := rfl
@[simp] theorem cfFul_169 : cfFul 169 = false := rfl
@[simp] theorem cfFul_170 : cfFul 170 = false := rfl
@[simp] theorem cfFul_171 : cfFul 171 = false := rfl
@[simp] theorem cfFul_172 : cfFul 172 = false := rfl
@[simp] theorem cfFul_173 : cfFul 173 = false := rfl
@[simp] theorem cfFul_174 : cfFul 174 = false := rfl
@[simp] theorem cfFul_175 : cfFul 175 = false := rfl
@[simp] theorem cfFul_176 : cfFul 176 = false := rfl
@[simp] theorem cfFul_177 : cfFul 177 = false := rfl
@[simp] theorem cfFul_178 : cfFul 178 = false := rfl
@[simp] theorem cfFul_179 : cfFul 179 = false := rfl
@[simp] theorem cfFul_180 : cfFul 180 = false := rfl
@[simp] theorem cfFul_181 : cfFul 181 = false := rfl
@[simp] theorem cfFul_182 : cfFul 182 = false := rfl
@[simp] theorem cfFul_183 : cfFul 183 = false := rfl
@[simp] theorem cfFul_184 : cfFul 184 = false := rfl
@[simp] theorem cfFul_185 : cfFul 185 = false := rfl
@[simp] theorem cfFul_186 : cfFul 186 = false := rfl
@[simp] theorem cfFul_187 : cfFul 187 = false := rfl
@[simp] theorem cfFul_188 : cfFul 188 = false := rfl
@[simp] theorem cfFul_189 : cfFul 189 = false := rfl
@[simp] theorem cfFul_190 : cfFul 190 = false := rfl
@[simp] theorem cfFul_191 : cfFul 191 = false := rfl
@[simp] theorem cfFul_192 : cfFul 192 = false := rfl
@[simp] theorem cfFul_193 : cfFul 193 = false := rfl
@[simp] theorem cfFul_194 : cfFul 194 = false := rfl
@[simp] theorem cfFul_195 : cfFul 195 = false := rfl
@[simp] theorem cfFul_196 : cfFul 196 = false := rfl
@[simp] theorem cfFul_197 : cfFul 197 = false := rfl
@[simp] theorem cfFul_198 : cfFul 198 = false := rfl
@[simp] theorem cfFul_199 : cfFul 199 = false := rfl
@[simp] theorem cfFul_200 : cfFul 200 = false := rfl
@[simp] theorem cfFul_201 : cfFul 201 = false := rfl
@[simp] theorem cfFul_202 : cfFul 202 = false := rfl
@[simp] theorem cfFul_203 : cfFul 203 = false := rfl
@[simp] theorem cfFul_204 : cfFul 204 = false := rfl
@[simp] theorem cfFul_205 : cfFul 205 = false := rfl
@[simp] theorem cfFul_206 : cfFul 206 = false := rfl
@[simp] theorem cfFul_207 : cfFul 207 = false := rfl
@[simp] theorem cfFul_208 : cfFul 208 = false := rfl
@[simp] theorem cfFul_209 : cfFul 209 = false := rfl
@[simp] theorem cfFul_210 : cfFul 210 = false := rfl
@[simp] theorem cfFul_211 : cfFul 211 = false := rfl
@[simp] theorem cfFul_212 : cfFul 212 = false := rfl
@[simp] theorem cfFul_213 : cfFul 213 = false := rfl
@[simp] theorem cfFul_214 : cfFul 214 = false := rfl
@[simp] theorem cfFul_215 : cfFul 215 = false := rfl
@[simp] theorem cfFul_216 : cfFul 216 = false := rfl
@[simp] theorem cfFul_217 : cfFul 217 = false := rfl
@[simp] theorem cfFul_218 : cfFul 218 = false := rfl
@[simp] theorem cfFul_219 : cfFul 219 = false := rfl
@[simp] theorem cfFul_220 : cfFul 220 = false := rfl
@[simp] theorem cfFul_221 : cfFul 221 = false := rfl
@[simp] theorem cfFul_222 : cfFul 222 = false := rfl
@[simp] theorem cfFul_223 : cfFul 223 = false := rfl
@[simp] theorem cfFul_224 : cfFul 224 = false := rfl
@[simp] theorem cfFul_225 : cfFul 225 = false := rfl
@[simp] theorem cfFul_226 : cfFul 226 = false := rfl
@[simp] theorem cfFul_227 : cfFul 227 = false := rfl
@[simp] theorem cfFul_228 : cfFul 228 = false := rfl
@[simp] theorem cfFul_229 : cfFul 229 = false := rfl
@[simp] theorem cfFul_230 : cfFul 230 = false := rfl
@[simp] theorem cfFul_231 : cfFul 231 = true := rfl
@[simp] theorem cfFul_232 : cfFul 232 = false := rfl
@[simp] theorem cfFul_233 : cfFul 233 = false := rfl
@[simp] theorem cfFul_234 : cfFul 234 = false := rfl
@[simp] theorem cfFul_235 : cfFul 235 = false := rfl
@[simp] theorem cfFul_236 : cfFul 236 = false := rfl
@[simp] theorem cfFul_237 : cfFul 237 = false := rfl
@[simp] theorem cfFul_238 : cfFul 238 = false := rfl
@[simp] theorem cfFul_239 : cfFul 239 = false := rfl
@[simp] theorem cfFul_240 : cfFul 240 = false := rfl
@[simp] theorem cfFul_241 : cfFul 241 = false := rfl
@[simp] theorem cfFul_242 : cfFul 242 = false := rfl
@[simp] theorem cfFul_243 : cfFul 243 = false := rfl
@[simp] theorem cfFul_244 : cfFul 244 = false := rfl
@[simp] theorem cfFul_245 : cfFul 245 = false := rfl
@[simp] theorem cfFul_246 : cfFul 246 = false := rfl
@[simp] theorem cfFul_247 : cfFul 247 = false := rfl
@[simp] theorem cfFul_248 : cfFul 248 = false := rfl
@[simp] theorem cfFul_249 : cfFul 249 = false := rfl
@[simp] theorem cfFul_250 : cfFul 250 = false := rfl
@[simp] theorem cfFul_251 : cfFul 251 = false := rfl
@[simp] theorem cfFul_252 : cfFul 252 = true := rfl
@[simp] theorem cfFul_253 : cfFul 253 = false := rfl
@[simp] theorem cfFul_254 : cfFul 254 = false := rfl
@[simp] theorem cfFul_255 : cfFul 255 = false := rfl
@[simp] theorem cfFul_256 : cfFul 256 = false := rfl
@[simp] theorem cfFul_257 : cfFul 257 = false := rfl
@[simp] theorem cfFul_258 : cfFul 258 = false := rfl
@[simp] theorem cfFul_259 : cfFul 259 = false := rfl
@[simp] theorem cfFul_260 : cfFul 260 = false := rfl
@[simp] theorem cfFul_261 : cfFul 261 = false := rfl
@[simp] theorem cfFul_262 : cfFul 262 = false := rfl
@[simp] theorem cfFul_263 : cfFul 263 = false := rfl
@[simp] theorem cfFul_264 : cfFul 264 = false := rfl
@[simp] theorem cfFul_265 : cfFul 265 = false := rfl
@[simp] theorem cfFul_266 : cfFul 266 = false := rfl
@[simp] theorem cfFul_267 : cfFul 267 = false := rfl
@[simp] theorem cfFul_268 : cfFul 268 = false := rfl
@[simp] theorem cfFul_269 : cfFul 269 = false := rfl
@[simp] theorem cfFul_270 : cfFul 270 = false := rfl
@[simp] theorem cfFul_271 : cfFul 271 = false := rfl
@[simp] theorem cfFul_272 : cfFul 272 = false := rfl
@[simp] theorem cfFul_273 : cfFul 273 = false := rfl
@[simp] theorem cfFul_274 : cfFul 274 = false := rfl
@[simp] theorem cfFul_275 : cfFul 275 = false := rfl
@[simp] theorem cfFul_276 : cfFul 276 = false := rfl
@[simp] theorem cfFul_277 : cfFul 277 = false := rfl
@[simp] theorem cfFul_278 : cfFul 278 = false := rfl
@[simp] theorem cfFul_279 : cfFul 279 = false := rfl
@[simp] theorem cfFul_280 : cfFul 280 = false := rfl
@[simp] theorem cfFul_281 : cfFul 281 = false := rfl
@[simp] theorem cfFul_282 : cfFul 282 = false := rfl
@[simp] theorem cfFul_283 : cfFul 283 = false := rfl
@[simp] theorem cfFul_284 : cfFul 284 = false := rfl
@[simp] theorem cfFul_285 : cfFul 285 = false := rfl
@[simp] theorem cfFul_286 : cfFul 286 = false := rfl
@[simp] theorem cfFul_287 : cfFul 287 = false := rfl
@[simp] theorem cfFul_288 : cfFul 288 = false := rfl
@[simp] theorem cfFul_289 : cfFul 289 = false := rfl
@[simp] theorem cfFul_290 : cfFul 290 = false := rfl
@[simp] theorem cfFul_291 : cfFul 291 = false := rfl
@[simp] theorem cfFul_292 : cfFul 292 = false := rfl
@[simp] theorem cfFul_293 : cfFul 293 = false := rfl
@[simp] theorem cfFul_294 : cfFul 294 = false := rfl
@[simp] theorem cfFul_295 : cfFul 295 = false := rfl
@[simp] theorem cfFul_296 : cfFul 296 = false := rfl
@[simp] theorem cfFul_297 : cfFul 297 = false := rfl
@[simp] theorem cfFul_313 : cfFul 313 = false := rfl
attribute [simp] cfEsc cfFrz cfLazy cfLoads cfMut cfIter
def xtL : List (Nat × Nat) := [(257, 0), (207, 1), (38, 2), (128, 3)]
noncomputable def xt : Nat → Option Caller := fun f => (xtL.lookup f).map (natX Tryz.prog)
noncomputable abbrev ev : Nat → Caller := evF Tryz.prog cf xt

theorem evF_step {P : Program} {cfg : Cfg} {ext : Nat → Option Caller} {f n : Nat} {fn : Func} {args : List C} {ro : Nat} {gl : List (List W)} (hx : ext f = none) (hf : P.funcs[f]? = some fn) (hn : fnOk cfg f fn = true) :
    evF P cfg ext (n + 1) f args ro gl = bodyA P cfg f (evF P cfg ext n) n fn args ro gl := by
  simp only [evF, hx, hf, Option.bind_some]
  rw [if_pos hn]
/-- A call that shares nothing comes to r. -/
def Gives (f : Nat) (args : List C) (r : V) : Prop := Evt fun n => ∀ ro gl, ev n f args ro gl = some (r, gl)
/-- A call among what is shared; it may write what lies from fl on. -/
def Does (f : Nat) (args : List C) (fl : Nat) (gl : List (List W)) (r : V) (gl' : List (List W)) : Prop := Evt fun n => ∀ ro, ro ≤ fl → ev n f args ro gl = some (r, gl')
theorem Gives.intro {f : Nat} {fn : Func} {args : List C} {r : V} (hf : Tryz.prog.funcs[f]? = some fn) (hn : (fnOk cf f fn && (xtL.lookup f).isNone) = true)
    (h : Evt fun n => ∀ ro gl, bodyA Tryz.prog cf f (ev n) n fn args ro gl = some (r, gl)) : Gives f args r := by
  obtain ⟨a, h⟩ := h
  refine ⟨a + 1, fun n hn' ro gl => ?_⟩
  obtain ⟨m, rfl⟩ : ∃ m, n = m + 1 := ⟨n - 1, by omega⟩
  simp only [Bool.and_eq_true] at hn
  rw [ev, evF_step (by simp only [xt, Option.map_eq_none_iff]; simpa using hn.2) hf hn.1]
  exact h m (by omega) ro gl
theorem Does.intro {f : Nat} {fn : Func} {args : List C} {r : V} {fl : Nat} {gl gl' : List (List W)} (hf : Tryz.prog.funcs[f]? = some fn) (hn : (fnOk cf f fn && (xtL.lookup f).isNone) = true)
    (h : Evt fun n => ∀ ro, ro ≤ fl → bodyA Tryz.prog cf f (ev n) n fn args ro gl = some (r, gl')) : Does f args fl gl r gl' := by
  obtain ⟨a, h⟩ := h
  refine ⟨a + 1, fun n hn' ro hro => ?_⟩
  obtain ⟨m, rfl⟩ : ∃ m, n = m + 1 := ⟨n - 1, by omega⟩
  simp only [Bool.and_eq_true] at hn
  rw [ev, evF_step (by simp only [xt, Option.map_eq_none_iff]; simpa using hn.2) hf hn.1]
  exact h m (by omega) ro hro
/-- A call that changes nothing of what is shared. -/
def Reads (f : Nat) (args : List C) (gl : List (List W)) (r : V) : Prop := Evt fun n => ∀ ro, ev n f args ro gl = some (r, gl)
theorem Reads.intro {f : Nat} {fn : Func} {args : List C} {gl : List (List W)} {r : V} (hf : Tryz.prog.funcs[f]? = some fn) (hn : (fnOk cf f fn && (xtL.lookup f).isNone) = true)
    (h : Evt fun n => ∀ ro, bodyA Tryz.prog cf f (ev n) n fn args ro gl = some (r, gl)) : Reads f args gl r := by
  obtain ⟨a, h⟩ := h
  refine ⟨a + 1, fun n hn' ro => ?_⟩
  obtain ⟨m, rfl⟩ : ∃ m, n = m + 1 := ⟨n - 1, by omega⟩
  simp only [Bool.and_eq_true] at hn
  rw [ev, evF_step (by simp only [xt, Option.map_eq_none_iff]; simpa using hn.2) hf hn.1]
  exact h m (by omega) ro
theorem Reads.does {f : Nat} {args : List C} {fl : Nat} {gl : List (List W)} {r : V} (h : Reads f args gl r) : Does f args fl gl r gl := h.imp fun _ h ro _ => h ro
theorem Gives.reads {f : Nat} {args : List C} {r : V} (h : Gives f args r) (gl : List (List W)) : Reads f args gl r := h.imp fun _ h ro => h ro _
theorem set_same {α : Type} {l : List α} {o : Nat} {x : α} (h : l[o]? = some x) : l.set o x = l := by
  apply List.ext_getElem?
  intro j
  rw [List.getElem?_set]
  by_cases hj : o = j
  · subst hj
    have hl : o < l.length := (List.getElem?_eq_some_iff.1 h).1
    rw [if_pos rfl, if_pos hl, h]
  · rw [if_neg hj]
theorem Gives.does {f : Nat} {args : List C} {r : V} (h : Gives f args r) (fl : Nat) (gl : List (List W)) : Does f args fl gl r gl := h.imp fun _ h ro _ => h ro gl

theorem ext_sound : ∀ f g, xt f = some g → Sound Tryz.prog False (fun f' => if f' = f then g f' else fun _ _ _ => none) := fun f g h => by
  simp only [xt, Option.map_eq_some_iff] at h
  obtain ⟨k, hk, rfl⟩ := h
  simp only [xtL, List.lookup] at hk
  split at hk
  · rename_i he
    cases hk
    obtain rfl : f = 257 := by simpa using he
    exact nat_sound Tryz.func257 (by kernel_rfl) (by kernel_rfl) rfl rfl
  split at hk
  · rename_i he
    cases hk
    obtain rfl : f = 207 := by simpa using he
    exact nat_sound Tryz.func207 (by kernel_rfl) (by kernel_rfl) rfl rfl
  split at hk
  · rename_i he
    cases hk
    obtain rfl : f = 38 := by simpa using he
    exact natS_sound
  split at hk
  · rename_i he
    cases hk
    obtain rfl : f = 128 := by simpa using he
    exact natS_sound
  cases hk
/-- The loops of some code, outer ones first. -/
def loopsOf : Code → List Code
  | .seq a b => loopsOf a ++ loopsOf b
  | .cond _ a b => loopsOf a ++ loopsOf b
  | .block _ b => loopsOf b
  | .loop b => b :: loopsOf b
  | _ => []
def bodyOf (fn : Func) (k : Nat) : Code := ((fn.body.map loopsOf).getD [])[k]?.getD .skip
/-- The loops over functions of some code: how a round begins, and the round. -/
def rangesOf : Code → List (Code × Code)
  | .seq a b => rangesOf a ++ rangesOf b
  | .cond _ a b => rangesOf a ++ rangesOf b
  | .block _ b => rangesOf b
  | .loop b => rangesOf b
  | .rangeFunc _ _ a b => [(a, b)]
  | _ => []
def rangeOf (fn : Func) (k : Nat) : Code × Code := ((fn.body.map rangesOf).getD [])[k]?.getD (.skip, .skip)
def hv (keep : List Nat) (r : Ex × St) : Ex × St := (r.1, r.2.hav keep)
theorem loop_step {f : St → Option (Ex × St)} {keep res : List Nat} {n : Nat} {s S : St} {Z : Option (Ex × St)} (h : (f (s.hav keep)).map (hv keep) = some (.normal, S)) (k : ∀ s', s'.hav keep = S → loopA f keep res n s' = Z) : loopA f keep res (n + 1) s = Z := by
  rw [Option.map_eq_some_iff] at h
  obtain ⟨⟨e, s1⟩, h1, h2⟩ := h
  simp only [hv, Prod.mk.injEq] at h2
  obtain ⟨rfl, h2⟩ := h2
  rw [← k s1 h2]
  simp only [loopA, iter, h1, Option.bind_some]
theorem loop_on {f : St → Option (Ex × St)} {keep : List Nat} {s S : St} (h : (f (s.hav keep)).map (hv keep) = some (.normal, S)) : ∃ s', s'.hav keep = S ∧ ∀ res n, loopA f keep res (n + 1) s = loopA f keep res n s' := by
  rw [Option.map_eq_some_iff] at h
  obtain ⟨⟨e, s1⟩, h1, h2⟩ := h
  simp only [hv, Prod.mk.injEq] at h2
  obtain ⟨rfl, h2⟩ := h2
  refine ⟨s1, h2, fun res n => ?_⟩
  simp only [loopA, iter, h1, Option.bind_some]
theorem loop_exit {f : St → Option (Ex × St)} {keep res : List Nat} {n i : Nat} {s S : St} (h : (f (s.hav keep)).map (hv keep) = some (.exit i, S)) : loopA f keep res (n + 1) s = some (.exit i, S) := by
  rw [Option.map_eq_some_iff] at h
  obtain ⟨⟨e, s1⟩, h1, h2⟩ := h
  simp only [hv, Prod.mk.injEq] at h2
  obtain ⟨rfl, h2⟩ := h2
  simp only [loopA, iter, h1, Option.bind_some, Option.map_some, exitHav, h2]
theorem loop_ret {f : St → Option (Ex × St)} {keep res : List Nat} {n : Nat} {s S : St} (h : (f (s.hav keep)).map (hv res) = some (.ret, S)) : loopA f keep res (n + 1) s = some (.ret, S) := by
  rw [Option.map_eq_some_iff] at h
  obtain ⟨⟨e, s1⟩, h1, h2⟩ := h
  simp only [hv, Prod.mk.injEq] at h2
  obtain ⟨rfl, h2⟩ := h2
  simp only [loopA, iter, h1, Option.bind_some, Option.map_some, exitHav, h2]
/-- A loop by a rule: S0 a state, R a what it comes to, m a measure. -/
theorem loop_by {σ : Type} {f : St → Option (Ex × St)} {keep res : List Nat} (S0 : σ → St) (P : σ → Prop) (m : σ → Nat) (R : σ → Ex × St)
    (round : ∀ a, P a → (∃ b, P b ∧ m b < m a ∧ (f (S0 a)).map (hv keep) = some (.normal, S0 b) ∧ R a = R b) ∨ (∃ i S, (f (S0 a)).map (hv keep) = some (.exit i, S) ∧ R a = (.exit i, S)) ∨ (∃ S, (f (S0 a)).map (hv res) = some (.ret, S) ∧ R a = (.ret, S))) :
    ∀ (n : Nat) (a : σ) (S : St), P a → m a < n → S.hav keep = S0 a → loopA f keep res n S = some (R a)
  | 0, a, S, _, hm, _ => absurd hm (by omega)
  | n + 1, a, S, hP, hm, hS => by
    rcases round a hP with ⟨b, hb, hlt, h, hR⟩ | ⟨i, T, h, hR⟩ | ⟨T, h, hR⟩
    · rw [← hS] at h
      obtain ⟨S', hS', e⟩ := loop_on h
      rw [e, hR]
      exact loop_by S0 P m R round n b S' hb (by omega) hS'
    · rw [hR]
      refine loop_exit ?_
      rw [hS]
      exact h
    · rw [hR]
      refine loop_ret ?_
      rw [hS]
      exact h
theorem iter_succ (f : St → Option (Ex × St)) (h : St → St) (n : Nat) (s : St) : iter f h (n + 1) s = (f (h s)).bind fun | (.normal, s') => iter f h n s' | r => some r := rfl

@[simp] theorem i64w (x : Int) (h : -9223372036854775808 ≤ x ∧ x ≤ 9223372036854775807) : IntKind.i64.wrap x = x := IntWalk.i64_in x h
@[simp] theorem u64w (x : Int) (h : 0 ≤ x ∧ x ≤ 18446744073709551615) : IntKind.u64.wrap x = x := by
  simp only [IntKind.wrap, IntKind.signed, IntKind.bits, Bool.false_and, Bool.false_eq_true, if_false]
  omega
@[simp] theorem u8w (x : Int) (h : 0 ≤ x ∧ x ≤ 255) : IntKind.u8.wrap x = x := by
  simp only [IntKind.wrap, IntKind.signed, IntKind.bits, Bool.false_and, Bool.false_eq_true, if_false]
  omega

@[simp] theorem tmod_nat (n : Nat) (k : Nat) : (n : Int).tmod (no_index (OfNat.ofNat k)) = (n : Int) % (OfNat.ofNat k) := Int.tmod_eq_emod_of_nonneg (by omega)
@[simp] theorem tdiv_nat (n : Nat) (k : Nat) : (n : Int).tdiv (no_index (OfNat.ofNat k)) = (n : Int) / (OfNat.ofNat k) := Int.tdiv_eq_ediv_of_nonneg (by omega)
/-- Closed cells. -/
@[simp] theorem closes_map {α : Type} (f : α → D) (l : List α) : closes (l.map fun x => W.d (f x)) = some (l.map f) := by
  induction l with
  | nil => rfl
  | cons a l ih => simp only [List.map_cons, closes, W.close, Option.bind_some, ih, Option.map_some]
@[simp] theorem hav_d (k : List Nat) : W.hav k ∘ W.d = W.d := rfl
@[simp] theorem hav_df {α : Type} (k : List Nat) (f : α → D) : (W.hav k ∘ fun x => W.d (f x)) = fun x => W.d (f x) := rfl
@[simp] theorem d_df {α : Type} (f : α → D) : (W.d ∘ fun x => f x) = fun x => W.d (f x) := rfl
@[simp] theorem drop_mid {α β : Type} (f : α → β) (p : List α) (x : β) (r : List β) : List.drop (p.length + 1) (p.map f ++ x :: r) = r := by
  rw [List.drop_append]
  simp
@[simp] theorem take_all {α β : Type} (f : α → β) (l : List α) : List.take l.length (l.map f) = l.map f := List.take_of_length_le (by simp)
/-- A byte, as data. -/
abbrev u8D (b : UInt8) : D := .int .u8 b.toNat
@[simp] theorem bytesOf_nil : bytesOf [] = some [] := rfl
@[simp] theorem bytesOf_cons (b : UInt8) (l : List (List D)) : bytesOf ([D.int .u8 b.toNat] :: l) = (bytesOf l).map (b :: ·) := by
  simp only [bytesOf, byteOf]
  rw [if_pos (by have := b.toNat_lt; omega)]
  cases bytesOf l <;> simp
@[simp] theorem bytesOf_u8 (l : List UInt8) : bytesOf (l.map fun x => [D.int .u8 x.toNat]) = some l := by
  induction l with
  | nil => rfl
  | cons a l ih => rw [List.map_cons, bytesOf_cons, ih]; rfl
@[simp] theorem bytesOf_comp (l : List UInt8) : bytesOf (l.map ((fun d => [d]) ∘ u8D)) = some l := bytesOf_u8 l
@[simp] theorem bytesOf_map (l : List UInt8) : bytesOf (l.map byteD) = some l := bytesOf_u8 l

abbrev I (n : Int) : C := .w (.d (.int .i64 n))
abbrev B (b : Bool) : C := .w (.d (.bool b))
abbrev T (s : List UInt8) : C := .w (.d (.str s))
abbrev L (xs : List (List D)) : C := .w (.d (.sl xs))

theorem arg_int {P : Program} {K t : Nat} {k : IntKind} {c : C} (hu : P.underlying t = some (.int k)) (h : ArgOf P (K + 1) t c) : ∃ x, c = .w (.d (.int k x)) ∧ (Lit.int k x).wf = true := by
  obtain ⟨ds, h1, h2⟩ := h
  simp only [Shape, hu] at h1
  obtain ⟨x, rfl, hx⟩ := h1
  rw [isAgg_of hu] at h2
  rcases h2 with ⟨h, _⟩ | ⟨_, d, h, rfl⟩
  · cases h
  · cases h; exact ⟨x, rfl, hx⟩
theorem arg_bool {P : Program} {K t : Nat} {c : C} (hu : P.underlying t = some .bool) (h : ArgOf P (K + 1) t c) : ∃ x, c = .w (.d (.bool x)) := by
  obtain ⟨ds, h1, h2⟩ := h
  simp only [Shape, hu] at h1
  obtain ⟨x, rfl⟩ := h1
  rw [isAgg_of hu] at h2
  rcases h2 with ⟨h, _⟩ | ⟨_, d, h, rfl⟩
  · cases h
  · cases h; exact ⟨x, rfl⟩
theorem arg_str {P : Program} {K t : Nat} {c : C} (hu : P.underlying t = some .string) (h : ArgOf P (K + 1) t c) : ∃ x : List UInt8, c = .w (.d (.str x)) ∧ x.length ≤ maxLen := by
  obtain ⟨ds, h1, h2⟩ := h
  simp only [Shape, hu] at h1
  obtain ⟨x, rfl, hx⟩ := h1
  rw [isAgg_of hu] at h2
  rcases h2 with ⟨h, _⟩ | ⟨_, d, h, rfl⟩
  · cases h
  · cases h; exact ⟨x, rfl, hx⟩
theorem arg_slice {P : Program} {K t e : Nat} {c : C} (hu : P.underlying t = some (.slice e)) (h : ArgOf P (K + 1) t c) : ∃ xs : List (List D), c = .w (.d (.sl xs)) ∧ xs.length ≤ maxLen ∧ ∀ x ∈ xs, Shape P K e x := by
  obtain ⟨ds, h1, h2⟩ := h
  simp only [Shape, hu] at h1
  obtain ⟨x, rfl, hx, hx'⟩ := h1
  rw [isAgg_of hu] at h2
  rcases h2 with ⟨h, _⟩ | ⟨_, d, h, rfl⟩
  · cases h
  · cases h; exact ⟨x, rfl, hx, hx'⟩
theorem uncons' {α β : Type} {R : α → β → Prop} {a : α} {l : List α} {c : List β} (h : All2 R (a :: l) c) : ∃ b r, c = b :: r ∧ R a b ∧ All2 R l r := by
  cases c with
  | nil => exact absurd h.1 (by simp)
  | cons b r => exact ⟨b, r, rfl, h.2 0 a b rfl rfl, by have := h.1; simpa using this, fun i x y hx hy => h.2 (i + 1) x y (by simpa using hx) (by simpa using hy)⟩
theorem nil' {α β : Type} {R : α → β → Prop} {c : List β} (h : All2 R [] c) : c = [] := by
  cases c with
  | nil => rfl
  | cons b r => exact absurd h.1 (by simp)
theorem i64_wf {x : Int} (h : (Lit.int .i64 x).wf = true) : -9223372036854775808 ≤ x ∧ x ≤ 9223372036854775807 := by
  simp [Lit.wf, IntKind.min, IntKind.max, IntKind.signed, IntKind.bits] at h
  omega
theorem Gives.goes {f : Nat} {args : List C} {r : V} (h : Gives f args r) : ∃ n gl, evF Tryz.prog cf xt n f args 0 [] = some (r, gl) := by
  obtain ⟨n, h⟩ := h
  exact ⟨n, [], h n (Nat.le_refl _) 0 []⟩
theorem Does.goes {f : Nat} {args : List C} {r : V} {fl : Nat} {gl : List (List W)} (h : Does f args fl [] r gl) : ∃ n gl, evF Tryz.prog cf xt n f args 0 [] = some (r, gl) := by
  obtain ⟨n, h⟩ := h
  exact ⟨n, gl, h n (Nat.le_refl _) 0 (Nat.zero_le _)⟩
theorem Gives.nat {f k : Nat} {args : List C} {r : V} (hf : xtL.lookup f = some k) (h : ∀ ro gl, natX Tryz.prog k f args ro gl = some (r, gl)) : Gives f args r := by
  refine ⟨1, fun n hn ro gl => ?_⟩
  obtain ⟨m, rfl⟩ : ∃ m, n = m + 1 := ⟨n - 1, by omega⟩
  simp only [ev, evF, xt, hf, Option.map_some]
  exact h ro gl
/-- A loop, with its code out of simp's sight. -/
def loopC (P : Program) (cfg : Cfg) (fid : Nat) (call : Caller) (n : Nat) (b : Code) (s : St) : Option (Ex × St) :=
  loopA (evC P cfg fid call n b) (cfg.keep fid (firstId b)) (cfg.res fid) n s
/-- A loop over a function, with its code out of simp's sight. -/
def roundC (P : Program) (cfg : Cfg) (fid : Nat) (call : Caller) (n : Nat) (ab : Code × Code) (ps : List Nat) (s : St) (gl : List (List W)) (y : List C) : Option (Ex × List (List W)) :=
  roundA (evC P cfg fid call n ab.1) (evC P cfg fid call n ab.2) ps s gl y
def rangeC (P : Program) (cfg : Cfg) (fid : Nat) (call : Caller) (n : Nat) (ab : Code × Code) (ps : List Nat) (s : St) (ys : List (List C)) (gl : List (List W)) : Option (Ex × List (List W)) :=
  rangeA (roundC P cfg fid call n ab ps s) ys gl
@[congr] theorem rangeC_congr {P : Program} {cfg : Cfg} {fid : Nat} {call : Caller} {n : Nat} {ab : Code × Code} {ps : List Nat} {s s' : St} {ys ys' : List (List C)} {gl gl' : List (List W)} (h : s = s') (hy : ys = ys') (hg : gl = gl') :
    rangeC P cfg fid call n ab ps s ys gl = rangeC P cfg fid call n ab ps s' ys' gl' := by rw [h, hy, hg]
theorem rangeC_nil {P : Program} {cfg : Cfg} {fid : Nat} {call : Caller} {n : Nat} {ab : Code × Code} {ps : List Nat} {s : St} {gl : List (List W)} : rangeC P cfg fid call n ab ps s [] gl = some (.normal, gl) := rfl
theorem rangeC_cons {P : Program} {cfg : Cfg} {fid : Nat} {call : Caller} {n : Nat} {ab : Code × Code} {ps : List Nat} {s : St} {y : List C} {r : List (List C)} {gl : List (List W)} : rangeC P cfg fid call n ab ps s (y :: r) gl = (roundC P cfg fid call n ab ps s gl y).bind fun
    | (.normal, gl') => rangeC P cfg fid call n ab ps s r gl'
    | q => some q := rfl
@[congr] theorem loopC_congr {P : Program} {cfg : Cfg} {fid : Nat} {call : Caller} {n : Nat} {b : Code} {s s' : St} (h : s = s') : loopC P cfg fid call n b s = loopC P cfg fid call n b s' := by rw [h]
section
variable (P : Program) (cfg : Cfg) (fid : Nat) (call : Caller) (n : Nat) (s : St)
@[simp] theorem evC_skip : evC P cfg fid call n .skip s = some (.normal, s) := rfl
@[simp] theorem evC_seq (a b : Code) : evC P cfg fid call n (.seq a b) s = (evC P cfg fid call n a s).bind fun
    | (.normal, s') => evC P cfg fid call n b s'
    | r => some r := rfl
@[simp] theorem evC_cond (c : Operand) (a b : Code) : evC P cfg fid call n (.cond c a b) s = (s.ev c).bind fun
    | .c (.w (.d (.bool q))) => if q then evC P cfg fid call n a s else evC P cfg fid call n b s
    | _ => none := rfl
@[simp] theorem evC_block (id : Nat) (b : Code) : evC P cfg fid call n (.block id b) s = (evC P cfg fid call n b s).bind fun
    | (.exit i, s') => if i = id then some (.normal, s') else some (.exit i, s')
    | r => some r := by
  simp only [evC]
  cases evC P cfg fid call n b s with
  | none => rfl
  | some r =>
    rcases r with ⟨e, s'⟩
    cases e <;> simp
    split <;> simp [*]
@[simp] theorem evC_range (g : Operand) (ps : Array Tmp) (a b : Code) : evC P cfg fid call n (.rangeFunc g ps a b) s = (iterA cfg s g ps.size).bind fun p => (rangeC P cfg fid call n (a, b) ps.toList p.2 p.1 p.2.gl).bind fun r => some (r.1, { p.2 with gl := r.2 }) := by
  simp only [evC, rangeC, Option.map_eq_bind]
  rfl
@[simp] theorem evC_exit (id : Nat) : evC P cfg fid call n (.exit id) s = some (.exit id, s) := rfl
@[simp] theorem evC_ret : evC P cfg fid call n .ret s = some (.ret, s) := rfl
@[simp] theorem evC_loop (b : Code) : evC P cfg fid call n (.loop b) s = loopC P cfg fid call n b s := rfl
end
@[simp] theorem beq_int (a b : Int) : (a == b) = decide (a = b) := by rw [Bool.eq_iff_iff]; simp
@[simp] theorem beq_str (a b : List UInt8) : (a == b) = decide (a = b) := by rw [Bool.eq_iff_iff]; simp
@[simp] theorem size_mk (a : Array UInt8) : ByteArray.size ⟨a⟩ = a.size := rfl
@[simp] theorem maxLen_eq : maxLen = 9223372036854775807 := rfl
theorem bind_go {α β : Type} {x : Option α} {v : α} {k : α → Option β} {r : Option β} (h : x = some v) (g : k v = r) : x.bind k = r := by rw [h]; exact g
end Go.Proofs.YtckonoejmjblfaaGreatDoor.Ev

import Derived.Test.YtfiahgfjepaiiaaGreatDoorVB1
import Derived.Test.YtfiahgfjepaiiaaGreatDoorProg
set_option linter.unusedVariables false
namespace Go.Tt
open Go.Proofs
inductive TT where
  | nil
  | node (t : Nat) (d : TD) (l r : TT)
def TT.get : TT → Nat → TD
  | .nil, _ => .none
  | .node t d l r, x => bif Nat.beq x t then d else bif Nat.blt x t then l.get x else r.get x
def TT.chk (P : Program) : TT → Bool
  | .nil => true
  | .node t d l r => chkT P t d && l.chk P && r.chk P
theorem TT.ok {P : Program} : ∀ {t : TT}, t.chk P = true → TOK P t.get
  | .nil, _, x => rfl
  | .node t d l r, h, x => by
    simp only [TT.chk, Bool.and_eq_true] at h
    simp only [TT.get]
    cases hb : Nat.beq x t with
    | true => rw [Nat.eq_of_beq_eq_true hb]; exact h.1.1
    | false =>
      simp only [cond_false]
      cases Nat.blt x t with
      | true => exact TT.ok h.1.2 x
      | false => exact TT.ok h.2 x
def TTab : TT := (.node 125 (.scalar (.fnil)) (.node 62 (.struct [0, 1] [.s e0, .nl, .i .i64 0, .nl]) (.node 31 (.scalar (.fnil)) (.node 16 (.scalar (.pn)) (.node 7 (.struct [0, 1, 2, 3] [.i .i64 0, .i .i64 0, .b false, .i .u8 0]) (.node 4 (.scalar (.b false)) (.node 2 (.scalar (.i .i64 0)) (.node 1 (.scalar (.fnil)) .nil .nil) (.node 3 (.scalar (.i .i64 0)) .nil .nil)) (.node 6 (.scalar (.i .u8 0)) (.node 5 (.scalar (.i .u8 0)) .nil .nil) .nil)) (.node 11 (.scalar (.s e0)) (.node 9 (.scalar (.s e0)) (.node 8 (.struct [0, 1, 2, 3] [.i .i64 0, .i .i64 0, .b false, .i .u8 0]) .nil .nil) (.node 10 (.scalar (.s e0)) .nil .nil)) (.node 15 (.scalar (.pn)) (.node 12 (.scalar (.i .u64 0)) .nil .nil) .nil))) (.node 23 (.slice .grant) (.node 20 (.scalar (.inil)) (.node 18 (.struct [0] [.pn]) (.node 17 (.scalar (.pn)) .nil .nil) (.node 19 (.struct [0] [.pn]) .nil .nil)) (.node 22 (.slice .shared) (.node 21 (.scalar (.i .i32 0)) .nil .nil) .nil)) (.node 27 (.struct [0, 1, 2, 6] [.nl, .nl, .nl, .i .i64 0, .i .i64 0, .i .i64 0, .i .i64 0]) (.node 25 (.struct [0, 1, 2, 3] [.nl, .i .i64 0, .i .i64 0, .i .i64 0]) (.node 24 (.slice .session) .nil .nil) (.node 26 (.struct [0, 1, 2, 3] [.nl, .i .i64 0, .i .i64 0, .i .i64 0]) .nil .nil)) (.node 29 (.scalar (.i .i64 0)) (.node 28 (.struct [0, 1, 2, 6] [.nl, .nl, .nl, .i .i64 0, .i .i64 0, .i .i64 0, .i .i64 0]) .nil .nil) .nil)))) (.node 45 (.struct [0, 1, 2] [.i .i64 0, .i .i64 0, .b false, .nl, .nl, .i .i64 0, .b false]) (.node 38 (.slice .change) (.node 35 (.scalar (.fnil)) (.node 33 (.scalar (.fnil)) (.node 32 (.scalar (.fnil)) .nil .nil) (.node 34 (.scalar (.fnil)) .nil .nil)) (.node 37 (.scalar (.fnil)) (.node 36 (.scalar (.fnil)) .nil .nil) .nil)) (.node 42 (.slice .commit) (.node 40 (.struct [0, 1, 2, 3, 4, 5, 6, 7, 8, 9] [.i .i64 0, .s e0, .s e0, .s e0, .s e0, .s e0, .i .i64 0, .i .i64 0, .i .i64 0, .nl]) (.node 39 (.struct [0, 1, 2, 3, 4, 5, 6, 7, 8, 9] [.i .i64 0, .s e0, .s e0, .s e0, .s e0, .s e0, .i .i64 0, .i .i64 0, .i .i64 0, .nl]) .nil .nil) (.node 41 (.slice .entry) .nil .nil)) (.node 44 (.struct [0, 1, 2, 3, 4] [.b false, .nl, .nl, .i .i64 0, .b false]) (.node 43 (.struct [0, 1, 2, 3, 4] [.b false, .nl, .nl, .i .i64 0, .b false]) .nil .nil) .nil))) (.node 55 (.scalar (.fnil)) (.node 51 (.scalar (.fnil)) (.node 48 (.scalar (.fnil)) (.node 46 (.struct [0, 1, 2] [.i .i64 0, .i .i64 0, .b false, .nl, .nl, .i .i64 0, .b false]) .nil .nil) (.node 50 (.scalar (.fnil)) .nil .nil)) (.node 54 (.scalar (.fnil)) (.node 52 (.scalar (.fnil)) .nil .nil) .nil)) (.node 59 (.struct [0, 1, 2] [.nl, .i .i64 0, .nl]) (.node 58 (.scalar (.fnil)) (.node 56 (.scalar (.fnil)) .nil .nil) .nil) (.node 61 (.struct [0, 1] [.s e0, .nl, .i .i64 0, .nl]) (.node 60 (.struct [0, 1, 2] [.nl, .i .i64 0, .nl]) .nil .nil) .nil))))) (.node 90 (.scalar (.fnil)) (.node 77 (.struct [0, 1, 2, 3, 4] [.i .i64 0, .s e0, .s e0, .i .i64 0, .i .i64 0]) (.node 69 (.struct [0, 1, 2] [.i .i64 0, .s e0, .nl]) (.node 66 (.scalar (.fnil)) (.node 64 (.scalar (.fnil)) (.node 63 (.scalar (.fnil)) .nil .nil) (.node 65 (.scalar (.fnil)) .nil .nil)) (.node 68 (.scalar (.fnil)) (.node 67 (.scalar (.fnil)) .nil .nil) .nil)) (.node 74 (.scalar (.fnil)) (.node 71 (.struct [0, 1, 2, 3] [.s e0, .b false, .s e0, .i .i64 0]) (.node 70 (.struct [0, 1, 2] [.i .i64 0, .s e0, .nl]) .nil .nil) (.node 72 (.struct [0, 1, 2, 3] [.s e0, .b false, .s e0, .i .i64 0]) .nil .nil)) (.node 76 (.scalar (.fnil)) (.node 75 (.scalar (.fnil)) .nil .nil) .nil))) (.node 84 (.scalar (.fnil)) (.node 81 (.struct [0, 1, 2, 3, 4] [.i .i64 0, .s e0, .s e0, .s e0, .i .i64 0]) (.node 79 (.scalar (.fnil)) (.node 78 (.struct [0, 1, 2, 3, 4] [.i .i64 0, .s e0, .s e0, .i .i64 0, .i .i64 0]) .nil .nil) (.node 80 (.struct [0, 1, 2, 3, 4] [.i .i64 0, .s e0, .s e0, .s e0, .i .i64 0]) .nil .nil)) (.node 83 (.scalar (.fnil)) (.node 82 (.scalar (.fnil)) .nil .nil) .nil)) (.node 87 (.struct [0, 1, 2] [.s e0, .s e0, .i .i64 0]) (.node 86 (.scalar (.fnil)) (.node 85 (.scalar (.fnil)) .nil .nil) .nil) (.node 89 (.slice .str) (.node 88 (.struct [0, 1, 2] [.s e0, .s e0, .i .i64 0]) .nil .nil) .nil)))) (.node 110 (.scalar (.fnil)) (.node 98 (.scalar (.fnil)) (.node 94 (.struct [0, 7] [.nl, .nl, .nl, .i .i64 0, .i .i64 0, .i .i64 0, .i .i64 0, .i .i64 0, .s e0, .s e0, .s e0, .s e0, .s e0, .i .i64 0, .i .i64 0, .i .i64 0, .nl]) (.node 92 (.scalar (.fnil)) (.node 91 (.scalar (.pn)) .nil .nil) (.node 93 (.struct [0, 7] [.nl, .nl, .nl, .i .i64 0, .i .i64 0, .i .i64 0, .i .i64 0, .i .i64 0, .s e0, .s e0, .s e0, .s e0, .s e0, .i .i64 0, .i .i64 0, .i .i64 0, .nl]) .nil .nil)) (.node 97 (.scalar (.fnil)) (.node 96 (.scalar (.fnil)) .nil .nil) .nil)) (.node 105 (.scalar (.fnil)) (.node 101 (.scalar (.fnil)) (.node 100 (.scalar (.fnil)) .nil .nil) (.node 103 (.scalar (.fnil)) .nil .nil)) (.node 108 (.scalar (.fnil)) (.node 106 (.scalar (.fnil)) .nil .nil) .nil))) (.node 119 (.scalar (.fnil)) (.node 115 (.scalar (.fnil)) (.node 112 (.scalar (.fnil)) (.node 111 (.scalar (.fnil)) .nil .nil) (.node 114 (.scalar (.fnil)) .nil .nil)) (.node 117 (.slice .entries) (.node 116 (.scalar (.fnil)) .nil .nil) .nil)) (.node 122 (.scalar (.fnil)) (.node 121 (.scalar (.fnil)) (.node 120 (.scalar (.fnil)) .nil .nil) .nil) (.node 124 (.scalar (.fnil)) (.node 123 (.scalar (.fnil)) .nil .nil) .nil)))))) (.node 184 (.scalar (.fnil)) (.node 155 (.scalar (.fnil)) (.node 140 (.scalar (.fnil)) (.node 133 (.scalar (.fnil)) (.node 130 (.scalar (.fnil)) (.node 127 (.scalar (.pn)) (.node 126 (.scalar (.fnil)) .nil .nil) (.node 129 (.scalar (.fnil)) .nil .nil)) (.node 132 (.map .bool) (.node 131 (.scalar (.fnil)) .nil .nil) .nil)) (.node 137 (.scalar (.fnil)) (.node 135 (.scalar (.fnil)) (.node 134 (.scalar (.fnil)) .nil .nil) (.node 136 (.scalar (.fnil)) .nil .nil)) (.node 139 (.scalar (.fnil)) (.node 138 (.scalar (.fnil)) .nil .nil) .nil))) (.node 148 (.scalar (.fnil)) (.node 144 (.scalar (.fnil)) (.node 142 (.scalar (.fnil)) (.node 141 (.scalar (.fnil)) .nil .nil) (.node 143 (.scalar (.fnil)) .nil .nil)) (.node 147 (.scalar (.fnil)) (.node 145 (.scalar (.fnil)) .nil .nil) .nil)) (.node 152 (.struct [0, 3] [.nl, .i .i64 0, .nl, .nl]) (.node 150 (.scalar (.fnil)) (.node 149 (.scalar (.fnil)) .nil .nil) (.node 151 (.scalar (.fnil)) .nil .nil)) (.node 154 (.scalar (.fnil)) (.node 153 (.struct [0, 3] [.nl, .i .i64 0, .nl, .nl]) .nil .nil) .nil)))) (.node 170 (.scalar (.pn)) (.node 162 (.scalar (.fnil)) (.node 159 (.scalar (.fnil)) (.node 157 (.scalar (.fnil)) (.node 156 (.scalar (.fnil)) .nil .nil) (.node 158 (.scalar (.fnil)) .nil .nil)) (.node 161 (.scalar (.fnil)) (.node 160 (.scalar (.fnil)) .nil .nil) .nil)) (.node 166 (.scalar (.fnil)) (.node 164 (.scalar (.fnil)) (.node 163 (.scalar (.fnil)) .nil .nil) (.node 165 (.scalar (.fnil)) .nil .nil)) (.node 169 (.scalar (.fnil)) (.node 167 (.scalar (.fnil)) .nil .nil) .nil))) (.node 177 (.scalar (.fnil)) (.node 174 (.scalar (.fnil)) (.node 172 (.scalar (.fnil)) (.node 171 (.scalar (.fnil)) .nil .nil) (.node 173 (.scalar (.i .u64 0)) .nil .nil)) (.node 176 (.scalar (.fnil)) (.node 175 (.scalar (.fnil)) .nil .nil) .nil)) (.node 180 (.scalar (.fnil)) (.node 179 (.scalar (.fnil)) (.node 178 (.scalar (.fnil)) .nil .nil) .nil) (.node 183 (.scalar (.fnil)) (.node 181 (.scalar (.fnil)) .nil .nil) .nil))))) (.node 213 (.scalar (.fnil)) (.node 198 (.scalar (.fnil)) (.node 191 (.scalar (.fnil)) (.node 188 (.scalar (.fnil)) (.node 186 (.scalar (.fnil)) (.node 185 (.scalar (.fnil)) .nil .nil) (.node 187 (.scalar (.fnil)) .nil .nil)) (.node 190 (.scalar (.fnil)) (.node 189 (.slice .int) .nil .nil) .nil)) (.node 195 (.scalar (.fnil)) (.node 193 (.scalar (.fnil)) (.node 192 (.scalar (.fnil)) .nil .nil) (.node 194 (.scalar (.fnil)) .nil .nil)) (.node 197 (.scalar (.fnil)) (.node 196 (.scalar (.fnil)) .nil .nil) .nil))) (.node 206 (.scalar (.fnil)) (.node 202 (.scalar (.fnil)) (.node 200 (.scalar (.fnil)) (.node 199 (.scalar (.fnil)) .nil .nil) (.node 201 (.scalar (.fnil)) .nil .nil)) (.node 205 (.scalar (.fnil)) (.node 203 (.scalar (.fnil)) .nil .nil) .nil)) (.node 209 (.scalar (.fnil)) (.node 208 (.scalar (.fnil)) (.node 207 (.scalar (.fnil)) .nil .nil) .nil) (.node 212 (.scalar (.fnil)) (.node 211 (.scalar (.fnil)) .nil .nil) .nil)))) (.node 231 (.scalar (.fnil)) (.node 221 (.scalar (.fnil)) (.node 218 (.scalar (.fnil)) (.node 215 (.scalar (.fnil)) (.node 214 (.scalar (.fnil)) .nil .nil) (.node 217 (.scalar (.fnil)) .nil .nil)) (.node 220 (.scalar (.fnil)) (.node 219 (.scalar (.fnil)) .nil .nil) .nil)) (.node 227 (.scalar (.fnil)) (.node 224 (.struct [0, 1] [.i .u8 0, .i .u8 0]) (.node 222 (.scalar (.fnil)) .nil .nil) (.node 225 (.struct [0, 1] [.i .u8 0, .i .u8 0]) .nil .nil)) (.node 229 (.scalar (.i .u32 0)) (.node 228 (.scalar (.fnil)) .nil .nil) .nil))) (.node 241 (.scalar (.fnil)) (.node 235 (.struct [0, 1, 2, 3] [.pn, .pn, .pn, .s e0]) (.node 233 (.scalar (.fnil)) (.node 232 (.scalar (.fnil)) .nil .nil) (.node 234 (.struct [0, 1, 2, 3] [.pn, .pn, .pn, .s e0]) .nil .nil)) (.node 240 (.scalar (.i .u8 0)) (.node 239 (.scalar (.i .u8 0)) .nil .nil) .nil)) (.node 244 (.scalar (.i .i32 0)) (.node 243 (.scalar (.i .i32 0)) (.node 242 (.scalar (.pn)) .nil .nil) .nil) (.node 246 (.struct [0, 1, 2, 3, 4, 5, 6, 7, 8, 9, 10] [.i .u64 0, .i .u64 0, .i .u32 0, .i .u8 0, .i .u8 0, .i .u8 0, .i .u8 0, .fnil, .pn, .i .i32 0, .i .i32 0]) (.node 245 (.struct [0, 1, 2, 3, 4, 5, 6, 7, 8, 9, 10] [.i .u64 0, .i .u64 0, .i .u32 0, .i .u8 0, .i .u8 0, .i .u8 0, .i .u8 0, .fnil, .pn, .i .i32 0, .i .i32 0]) .nil .nil) .nil)))))))
/-- tether/tetherlaw.HubNews -/
def h3 : HintL := []
/-- tether/tetherlaw.HubChecks -/
def h4 : HintL := []
/-- tether/tetherlaw.HubServes -/
def h5 : HintL := []
/-- tether/tetherlaw.HubGoes -/
def h6 : HintL := []
/-- tether/tetherlaw.HubApart -/
def h7 : HintL := []
/-- tether/tetherlaw.HubTwice -/
def h8 : HintL := []
/-- tether/tetherlaw.HubDenies -/
def h9 : HintL := [(0, [2, 3, 5, 6, 8, 10], [3, 6, 8], [4], [(2, some 0, .shared), (2, some 1, .grant), (3, some 9, .change), (5, some 0, .shared), (5, some 1, .grant)])]
/-- tether/tetherlaw.HubTicks -/
def h10 : HintL := []
/-- tether/tetherlaw.HubUploads -/
def h11 : HintL := [(2, [1, 2, 3, 4, 5, 6, 14, 19, 22, 23, 24], [1, 2, 3, 4, 5, 6, 14, 19, 22], [12], [(6, some 0, .shared), (6, some 1, .grant), (19, some 0, .shared), (19, some 1, .grant), (23, some 0, .entry), (23, some 2, .commit)]), (0, [1, 2, 3, 4, 5, 6, 14, 19, 22], [1, 2, 3, 4, 5, 14, 19], [12], [(6, some 0, .shared), (6, some 1, .grant), (19, some 0, .shared), (19, some 1, .grant)])]
/-- tether/hub.New -/
def h12 : HintL := []
/-- tether/tetherref.CheckUploads -/
def h13 : HintL := [(5, [1, 7], [], [2], [(1, some 0, .session)]), (3, [1, 6], [1], [2], [(1, some 0, .session)]), (0, [1, 3, 4], [1], [2], [(1, some 0, .session)])]
/-- tether/tetherlaw.hubBegun -/
def h14 : HintL := []
/-- tether/tetherref.SameHub -/
def h15 : HintL := [(0, [2, 3, 5], [], [4], [(2, some 0, .shared), (2, some 1, .grant), (3, some 0, .shared), (3, some 1, .grant)])]
/-- tether/hub.Check -/
def h16 : HintL := [(3, [1, 6], [1], [2], [(1, some 0, .shared), (1, some 1, .grant)]), (1, [1, 23, 24, 25], [1], [2], [(1, some 0, .shared), (1, some 1, .grant), (23, none, .shared)])]
/-- tether/tetherref.CheckHub -/
def h17 : HintL := [(6, [1, 8], [1], [2], [(1, some 0, .shared), (1, some 1, .grant)]), (4, [1, 7], [1], [2], [(1, some 0, .shared), (1, some 1, .grant)]), (2, [1, 5], [1], [2], [(1, some 0, .shared), (1, some 1, .grant)]), (0, [1, 3], [1], [2], [(1, some 0, .shared), (1, some 1, .grant)])]
/-- tether/hub.Serve -/
def h18 : HintL := []
/-- tether/tetherref.ServeOf -/
def h19 : HintL := [(1, [2, 3, 4, 5, 9, 11], [2, 3, 4, 5, 9, 11], [4, 5], [(2, some 0, .shared), (2, some 1, .grant), (3, some 9, .change), (4, some 0, .shared), (4, some 1, .grant), (9, none, .grant)])]
/-- tether/tetherref.SameAnswer -/
def h20 : HintL := []
/-- tether/hub.Tree -/
def h21 : HintL := []
/-- tether/tetherref.SameEntries -/
def h22 : HintL := [(0, [0, 1, 5], [], [4], [])]
/-- tether/tetherlaw.grantBegun -/
def h23 : HintL := []
/-- tether/grant.Right -/
def h24 : HintL := []
/-- tether/tetherref.IsName -/
def h25 : HintL := [(0, [0, 3], [0], [2], [])]
/-- tether/hub.Tick -/
def h26 : HintL := []
/-- tether/tetherref.FolderAt -/
def h27 : HintL := [(0, [1, 2, 5], [], [4], [(2, some 0, .shared), (2, some 1, .grant)])]
/-- tether/tetherref.TreeOf -/
def h28 : HintL := []
/-- tether/tetherlaw.treeIs -/
def h29 : HintL := []
/-- tether/tree.Find -/
def h30 : HintL := []
/-- tether/upload.Check -/
def h31 : HintL := [(5, [1, 67, 68, 69], [], [2], [(1, some 0, .session), (67, none, .session)]), (3, [1, 6], [1], [2], [(1, some 0, .session)]), (1, [1, 32, 33, 34], [1], [2], [(1, some 0, .session), (32, none, .session)])]
/-- tether/tetherref.CheckUploads$1 -/
def h32 : HintL := []
/-- tether/tetherref.OpenOf -/
def h33 : HintL := [(0, [0, 1, 5, 6], [5], [4], [])]
/-- tether/tetherref.SameGrants -/
def h34 : HintL := [(0, [0, 1, 5], [], [4], [])]
/-- tether/tetherref.SameUploads -/
def h35 : HintL := [(0, [2, 3, 5], [], [4], [(2, some 0, .session), (3, some 0, .session)])]
/-- tether/tetherref.SameJournal -/
def h36 : HintL := []
/-- tether/path.IsName -/
def h37 : HintL := [(1, [0, 3, 34, 35], [], [2], [])]
/-- tether/journal.Check -/
def h38 : HintL := []
/-- tether/grant.Check -/
def h39 : HintL := [(3, [0, 5], [0], [2], []), (0, [0, 9, 10, 11], [0], [2], [(9, none, .grant)])]
/-- tether/hub.matched -/
def h40 : HintL := [(0, [1, 3, 10, 11, 12], [1, 3], [2], [(1, some 0, .shared), (1, some 1, .grant), (10, none, .grant)])]
/-- tether/tetherref.CheckJournal -/
def h41 : HintL := []
/-- tether/tetherref.CheckGrants -/
def h42 : HintL := [(4, [0, 5], [], [2], []), (2, [0, 4], [0], [2], []), (0, [0, 3], [0], [2], [])]
/-- tether/tetherref.WhoOf -/
def h43 : HintL := [(0, [0, 1, 5, 6], [5], [4], [(5, none, .str)])]
/-- tether/hub.cloned -/
def h44 : HintL := [(0, [1, 2, 20, 21, 22], [1, 2], [2], [(1, some 0, .shared), (1, some 1, .grant), (2, some 0, .shared), (2, some 1, .grant), (20, none, .shared)])]
/-- (*tether/hub.server).serve -/
def h45 : HintL := []
/-- tether/tetherref.ServeOf$1 -/
def h46 : HintL := []
/-- tether/tetherref.RightOf -/
def h47 : HintL := [(0, [0, 1, 2, 7], [], [6], [])]
/-- tether/tetherref.MakeOf -/
def h48 : HintL := []
/-- tether/tetherref.GiveOf -/
def h49 : HintL := []
/-- tether/tetherref.ReadOf -/
def h50 : HintL := [(0, [1, 2, 3, 6, 8, 9, 10], [6, 8, 9], [6, 7], [(3, some 0, .entry), (3, some 2, .commit), (6, some 1, .entry), (6, some 2, .commit), (9, some 1, .entry), (9, some 2, .commit)])]
/-- tether/tetherref.OpenUpload -/
def h51 : HintL := []
/-- tether/tetherref.AppendUpload -/
def h52 : HintL := []
/-- tether/tetherref.MineOf -/
def h53 : HintL := []
/-- tether/tetherref.FinishUpload -/
def h54 : HintL := []
/-- tether/tetherref.CommitOf -/
def h55 : HintL := [(0, [1, 2, 3, 6, 9], [1, 2, 3, 6], [6, 7, 8], [(3, some 0, .entry), (3, some 2, .commit), (6, some 0, .entry), (6, some 2, .commit)])]
/-- tether/tetherref.withJournal -/
def h56 : HintL := []
/-- tether/tetherref.SamePage -/
def h57 : HintL := []
/-- tether/hub.find -/
def h58 : HintL := []
/-- tether/journal.Tree -/
def h59 : HintL := []
/-- tether/grant.Make -/
def h60 : HintL := []
/-- tether/grant.Give -/
def h61 : HintL := []
/-- tether/grant.names -/
def h62 : HintL := []
/-- tether/grant.Of -/
def h63 : HintL := []
/-- tether/tetherref.OpenJournal -/
def h64 : HintL := [(5, [1, 5, 9, 10], [1, 5, 9], [2, 3], [(1, some 0, .entry), (1, some 2, .commit), (5, none, .entries)]), (3, [1, 5, 9], [5], [2, 3], [(1, some 0, .entry), (1, some 2, .commit), (5, none, .entries)]), (0, [1, 5, 6, 7], [1, 5], [2, 3], [(1, some 0, .entry), (1, some 2, .commit), (5, none, .entries), (6, none, .entry)])]
/-- tether/tree.check -/
def h65 : HintL := [(0, [6, 7, 8], [], [2], [(6, none, .entries)])]
/-- tether/path.Check -/
def h66 : HintL := []
/-- tether/tree.At -/
def h67 : HintL := []
/-- tether/upload.within -/
def h68 : HintL := []
/-- tether/upload.session -/
def h69 : HintL := []
/-- tether/upload.open -/
def h70 : HintL := [(0, [1, 5, 8, 9, 10], [5], [4], [(8, none, .session)])]
/-- tether/tetherref.SameCommits -/
def h71 : HintL := [(0, [0, 1, 5], [], [4], [])]
/-- tether/path.IsName$1 -/
def h72 : HintL := []
/-- strings.IndexByte -/
def h73 : HintL := []
/-- tether/journal.Open -/
def h74 : HintL := [(1, [1, 5, 6, 39, 40, 41], [1, 5, 6], [2, 3], [(1, some 0, .entry), (1, some 2, .commit), (39, none, .commit)])]
/-- tether/grant.order -/
def h75 : HintL := []
/-- tether/grant.owned -/
def h76 : HintL := [(0, [3, 4, 9, 10, 11], [3, 4], [2], [(9, none, .grant)])]
/-- tether/tetherref.Owned -/
def h77 : HintL := [(0, [0, 1, 5], [], [4], [])]
/-- slices.Clone[[]tether/api.Shared,tether/api.Shared] -/
def h78 : HintL := []
/-- slices.Clone[[]tether/api.Grant,tether/api.Grant] -/
def h79 : HintL := []
/-- slices.Clone[[]tether/api.Session,tether/api.Session] -/
def h80 : HintL := []
/-- tether/hub.own -/
def h81 : HintL := [(0, [1, 2, 14, 15, 16], [1, 2], [2], [(1, some 0, .entry), (1, some 2, .commit), (2, some 0, .entry), (2, some 2, .commit), (14, none, .commit)])]
/-- (*tether/hub.server).create -/
def h82 : HintL := []
/-- (*tether/hub.server).give -/
def h83 : HintL := []
/-- (*tether/hub.server).page -/
def h84 : HintL := []
/-- (*tether/hub.server).uploads -/
def h85 : HintL := []
/-- tether/upload.Open -/
def h86 : HintL := []
/-- tether/upload.Append -/
def h87 : HintL := []
/-- tether/upload.Query -/
def h88 : HintL := []
/-- (*tether/hub.server).may -/
def h89 : HintL := []
/-- (*tether/hub.server).finish -/
def h90 : HintL := []
/-- (*tether/hub.server).commit -/
def h91 : HintL := []
/-- tether/tetherref.PutGrant -/
def h92 : HintL := [(0, [0, 1, 2, 3, 9, 10, 11], [1, 2, 3, 9, 10], [8], [(9, none, .grant)])]
/-- tether/tetherref.BeginUpload -/
def h93 : HintL := []
/-- tether/tetherref.SweepOf -/
def h94 : HintL := [(0, [1, 2, 4, 5, 6], [2, 4, 5], [4], [(2, some 0, .session), (4, some 0, .session), (5, none, .session)])]
/-- tether/tetherref.SessionAt -/
def h95 : HintL := [(0, [1, 2, 3, 7], [], [6], [(3, some 0, .session)])]
/-- tether/tetherref.IsKey -/
def h96 : HintL := [(0, [0, 3], [0], [2], [])]
/-- tether/tetherref.AllOf -/
def h97 : HintL := [(0, [0, 1, 2, 9], [0, 1], [6, 7, 8], [(0, none, .entry)])]
/-- slices.BinarySearchFunc[[]tether/api.Shared,tether/api.Shared,string] -/
def h98 : HintL := [(0, [0, 1, 2, 8, 9, 10], [0, 1, 2, 8, 9], [6, 7], [])]
/-- tether/hub.find$1 -/
def h99 : HintL := []
/-- cmp.Compare[string] -/
def h100 : HintL := []
/-- slices.Clone[[]tether/api.Entry,tether/api.Entry] -/
def h101 : HintL := []
/-- slices.ContainsFunc[[]tether/api.Grant,tether/api.Grant] -/
def h102 : HintL := []
/-- tether/grant.Make$1 -/
def h103 : HintL := []
/-- tether/grant.set -/
def h104 : HintL := []
/-- tether/grant.Give$1 -/
def h105 : HintL := []
/-- slices.ContainsFunc[[]string,string] -/
def h106 : HintL := []
/-- tether/grant.names$1 -/
def h107 : HintL := []
/-- tether/grant.find -/
def h108 : HintL := []
/-- tether/tetherref.CheckTree -/
def h109 : HintL := [(7, [0, 7], [], [2], []), (5, [0, 6], [0], [2], []), (3, [0, 5], [0], [2], []), (0, [0, 3], [0], [2], [])]
/-- tether/tetherref.IsVersion -/
def h110 : HintL := []
/-- tether/tree.checkTree -/
def h111 : HintL := [(4, [0, 7, 45, 46, 47], [7], [2], [(45, none, .entry)]), (2, [0, 6], [0], [2], []), (0, [0, 15, 16, 17], [0], [2], [(15, none, .entry)])]
/-- tether/path.check -/
def h112 : HintL := [(0, [2, 6, 7, 8], [2], [2], [(6, none, .str)])]
/-- slices.BinarySearchFunc[[]tether/api.Entry,tether/api.Entry,string] -/
def h113 : HintL := [(0, [0, 1, 2, 8, 9, 10], [0, 1, 2, 8, 9], [6, 7], [])]
/-- tether/tree.At$1 -/
def h114 : HintL := []
/-- tether/tetherref.SameChanges -/
def h115 : HintL := [(0, [0, 1, 5], [], [4], [])]
/-- internal/stringslite.IndexByte -/
def h116 : HintL := []
/-- tether/tree.Check -/
def h117 : HintL := []
/-- tether/journal.IsKey -/
def h118 : HintL := []
/-- tether/tree.All -/
def h119 : HintL := [(0, [0, 1, 2, 33, 34, 35], [0, 1], [6, 7, 8], [(0, none, .entry), (33, none, .change)])]
/-- cmp.Or[int] -/
def h120 : HintL := [(0, [3, 6, 7, 8], [3], [2], [(6, none, .int)])]
/-- slices.Clone[[]tether/api.Commit,tether/api.Commit] -/
def h121 : HintL := []
/-- slices.Clone[[]tether/api.Change,tether/api.Change] -/
def h122 : HintL := []
/-- slices.Insert[[]tether/api.Shared,tether/api.Shared] -/
def h123 : HintL := []
/-- tether/journal.Read -/
def h124 : HintL := []
/-- tether/upload.begin -/
def h125 : HintL := []
/-- tether/upload.mine -/
def h126 : HintL := []
/-- (*tether/hub.server).right -/
def h127 : HintL := []
/-- tether/upload.Finish -/
def h128 : HintL := []
/-- tether/journal.Commit -/
def h129 : HintL := []
/-- tether/tetherref.ChangeOf -/
def h130 : HintL := [(6, [0, 2, 4, 12, 14], [12], [6, 7], [(12, none, .entry)]), (4, [0, 2, 4, 12, 13], [0, 2, 4, 12], [6, 7], [(12, none, .entry)]), (1, [0, 2, 4, 11], [0, 2, 4], [6, 7], [])]
/-- cmp.isNaN[string] -/
def h131 : HintL := []
/-- slices.IndexFunc[[]tether/api.Grant,tether/api.Grant] -/
def h132 : HintL := [(0, [0, 1, 7, 8], [], [4], [])]
/-- slices.Delete[[]tether/api.Grant,tether/api.Grant] -/
def h133 : HintL := []
/-- slices.Insert[[]tether/api.Grant,tether/api.Grant] -/
def h134 : HintL := []
/-- slices.IndexFunc[[]string,string] -/
def h135 : HintL := [(0, [0, 1, 7, 8], [], [4], [])]
/-- slices.BinarySearchFunc[[]tether/api.Grant,tether/api.Grant,tether/api.Grant] -/
def h136 : HintL := [(0, [0, 2, 4, 8, 9, 10], [0, 2, 4, 8, 9], [6, 7], [])]
/-- tether/tetherref.CheckPath -/
def h137 : HintL := [(0, [0, 3, 4], [0], [2], [(3, none, .str)])]
/-- tether/tetherref.IsFolder -/
def h138 : HintL := []
/-- tether/tetherref.ParentOf -/
def h139 : HintL := []
/-- tether/tree.checkEntry -/
def h140 : HintL := []
/-- tether/tree.parent -/
def h141 : HintL := []
/-- strings.SplitSeq -/
def h142 : HintL := []
/-- tether/path.great -/
def h143 : HintL := []
/-- tether/journal.IsKey$1 -/
def h145 : HintL := []
/-- strings.IndexFunc -/
def h146 : HintL := []
/-- tether/journal.IsKey$2 -/
def h147 : HintL := []
/-- tether/tree.isVersion -/
def h148 : HintL := []
/-- tether/tree.Raw -/
def h149 : HintL := []
/-- slices.rotateRight[tether/api.Shared] -/
def h151 : HintL := []
/-- (*tether/journal.Keeper).last -/
def h152 : HintL := []
/-- tether/journal.cloned -/
def h153 : HintL := [(0, [0, 7, 8, 9], [0], [2], [(0, none, .commit), (7, none, .commit)])]
/-- tether/upload.swept -/
def h154 : HintL := []
/-- slices.IndexFunc[[]tether/api.Session,tether/api.Session] -/
def h155 : HintL := [(0, [0, 1, 7, 8], [], [4], [])]
/-- tether/upload.mine$1 -/
def h156 : HintL := []
/-- slices.Delete[[]tether/api.Session,tether/api.Session] -/
def h157 : HintL := []
/-- slices.IndexFunc[[]tether/api.Commit,tether/api.Commit] -/
def h158 : HintL := [(0, [0, 1, 7, 8], [], [4], [])]
/-- tether/journal.Commit$1 -/
def h159 : HintL := []
/-- tether/tetherref.ChangeForm -/
def h160 : HintL := []
/-- tether/tetherref.EntryAt -/
def h161 : HintL := [(0, [0, 1, 5], [], [4], [])]
/-- tether/tetherref.IsIn -/
def h162 : HintL := [(0, [5, 6, 7], [], [4], [(5, none, .str), (6, none, .str)])]
/-- tether/tetherref.PutEntry -/
def h163 : HintL := [(0, [0, 3, 5, 6, 7], [3, 5, 6], [4], [(5, none, .entry)])]
/-- tether/tetherref.PathOf -/
def h164 : HintL := [(0, [0, 3, 4], [3], [2], [])]
/-- tether/tetherref.NamesOf -/
def h165 : HintL := [(0, [0, 3, 4, 5], [0, 3, 4], [2], [(3, none, .str)])]
/-- tether/tetherref.TooGreat -/
def h166 : HintL := []
/-- slices.rotateRight[tether/api.Grant] -/
def h168 : HintL := []
/-- tether/path.Split -/
def h169 : HintL := []
/-- strings.splitSeq -/
def h170 : HintL := []
/-- strings.Count -/
def h171 : HintL := [(0, [0, 1, 5], [], [4], [])]
/-- strings.indexFunc -/
def h172 : HintL := [(0, [1, 2, 10], [], [6], [])]
/-- tether/tree.form -/
def h173 : HintL := []
/-- tether/tree.may -/
def h174 : HintL := []
/-- tether/tree.done -/
def h175 : HintL := [(3, [0, 86, 87, 88], [0], [6, 7], [(0, none, .entry), (86, none, .entry)]), (1, [0, 2, 4, 8, 43, 44, 45], [0, 4, 8], [6, 7], [(0, none, .entry), (8, none, .entry), (43, none, .entry)])]
/-- slices.rotateLeft[tether/api.Shared] -/
def h176 : HintL := []
/-- slices.DeleteFunc[[]tether/api.Session,tether/api.Session] -/
def h177 : HintL := [(0, [0, 1, 5, 6], [0, 5], [4], [])]
/-- tether/upload.swept$1 -/
def h178 : HintL := []
/-- slices.rotateLeft[tether/api.Grant] -/
def h179 : HintL := []
/-- strings.LastIndexByte -/
def h180 : HintL := []
/-- strings.splitSeq$1 -/
def h181 : HintL := [(2, [0, 1, 2, 3], [0, 2], [], []), (0, [0, 2], [], [], [])]
/-- unicode/utf8.DecodeRuneInString -/
def h182 : HintL := []
/-- strings.Index -/
def h183 : HintL := []
/-- unicode/utf8.RuneCountInString -/
def h184 : HintL := [(0, [2, 4], [2], [2], [])]
/-- tether/path.In -/
def h186 : HintL := []
/-- tether/tree.may$1 -/
def h187 : HintL := []
/-- slices.ContainsFunc[[]tether/api.Entry,tether/api.Entry] -/
def h188 : HintL := []
/-- tether/tree.put -/
def h189 : HintL := []
/-- tether/tree.without -/
def h190 : HintL := []
/-- tether/path.Moved -/
def h191 : HintL := []
/-- slices.Reverse[[]tether/api.Shared,tether/api.Shared] -/
def h192 : HintL := [(0, [0, 2, 3], [], [], [])]
/-- slices.Reverse[[]tether/api.Grant,tether/api.Grant] -/
def h193 : HintL := [(0, [0, 2, 3], [], [], [])]
/-- internal/bytealg.LastIndexByteString -/
def h194 : HintL := [(0, [0, 1, 5], [], [4], [])]
/-- unicode/utf8.decodeRuneInStringSlow -/
def h195 : HintL := []
/-- internal/stringslite.Index -/
def h196 : HintL := [(1, [0, 1, 5, 6, 7, 8, 9, 10], [], [4], [])]
/-- strings.HasPrefix -/
def h197 : HintL := []
/-- slices.IndexFunc[[]tether/api.Entry,tether/api.Entry] -/
def h198 : HintL := [(0, [0, 1, 7, 8], [], [4], [])]
/-- slices.Insert[[]tether/api.Entry,tether/api.Entry] -/
def h199 : HintL := []
/-- slices.DeleteFunc[[]tether/api.Entry,tether/api.Entry] -/
def h200 : HintL := [(0, [0, 1, 5, 6], [0, 5], [4], [])]
/-- tether/tree.without$1 -/
def h201 : HintL := []
/-- internal/bytealg.Cutover -/
def h203 : HintL := []
/-- internal/bytealg.IndexRabinKarp[string] -/
def h204 : HintL := [(2, [0, 1, 5, 6, 7, 8, 10], [], [4], []), (0, [0, 1, 5, 6, 7, 8, 9], [0, 1, 5, 6, 7, 8], [4], [])]
/-- internal/stringslite.HasPrefix -/
def h205 : HintL := []
/-- slices.rotateRight[tether/api.Entry] -/
def h207 : HintL := []
/-- internal/bytealg.hashStr[string] -/
def h208 : HintL := [(2, [4, 6, 7, 8], [4, 6], [2, 3], []), (0, [0, 4, 5], [0, 4], [2, 3], [])]
/-- slices.rotateLeft[tether/api.Entry] -/
def h209 : HintL := []
/-- slices.Reverse[[]tether/api.Entry,tether/api.Entry] -/
def h210 : HintL := [(0, [0, 2, 3], [], [], [])]
theorem TTab_chk : TTab.chk Tryz.prog = true := by kernel_rfl
theorem tok : TOK Tryz.prog TTab.get := TT.ok TTab_chk
theorem mixed : Tryz.prog.follows .mixedOrders = true := by kernel_rfl
end Go.Tt

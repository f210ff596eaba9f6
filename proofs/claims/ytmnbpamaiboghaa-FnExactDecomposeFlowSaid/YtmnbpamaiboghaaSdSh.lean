/-
  The library's contracts for keys of a map and sorted slices, laid at this program.
-/
import Derived.Shelf.SlGeneric
import Derived.Shelf.SlIterI.Nil
import Derived.Shelf.SortM.Plain
import Derived.Shelf.SortM.SortNone
import Derived.Test.YtmnbpamaiboghaaProg
namespace Go.Proofs.Ytmnbpamaiboghaa
open Go.Shelf
def sh_keysA_ren : Go.Shelf.Ren := ⟨fun | 7 => 95 | 10 => 139 | n => n, fun | 23 => 118 | 26 => 3 | 3 => 4 | 28 => 121 | 0 => 0 | 27 => 120 | 33 => 110 | 4 => 4 | n => n, fun | n => n⟩
def sh_sortedA_ren : Go.Shelf.Ren := ⟨fun | 6 => 94 | 8 => 138 | 9 => 101 | 11 => 156 | 13 => 142 | 12 => 141 | 23 => 166 | 24 => 167 | 14 => 157 | 15 => 158 | 16 => 159 | 17 => 160 | 18 => 161 | 19 => 162 | 20 => 163 | 21 => 164 | 22 => 165 | 25 => 175 | 26 => 176 | 27 => 177 | 28 => 178 | 29 => 179 | 30 => 168 | 31 => 182 | n => n, fun | 26 => 3 | 28 => 121 | 24 => 25 | 0 => 0 | 3 => 3 | 37 => 155 | 48 => 176 | 50 => 178 | 4 => 4 | 40 => 169 | 39 => 168 | 45 => 100 | 5 => 5 | 9 => 9 | 51 => 182 | 55 => 186 | 57 => 188 | 58 => 189 | 33 => 110 | n => n, fun | n => n⟩
def sh_sortA_ren : Go.Shelf.Ren := ⟨fun | 5 => 101 | 8 => 142 | 7 => 141 | 19 => 166 | 20 => 167 | 10 => 157 | 11 => 158 | 12 => 159 | 13 => 160 | 14 => 161 | 15 => 162 | 16 => 163 | 17 => 164 | 18 => 165 | 30 => 175 | 31 => 176 | 32 => 177 | 33 => 178 | 34 => 179 | 35 => 168 | 40 => 182 | n => n, fun | 23 => 25 | 25 => 3 | 3 => 3 | 32 => 155 | 22 => 25 | 0 => 0 | 44 => 176 | 46 => 178 | 4 => 4 | 36 => 169 | 35 => 168 | 41 => 100 | 5 => 5 | 9 => 9 | 53 => 182 | 57 => 186 | 63 => 188 | 64 => 189 | n => n, fun | n => n⟩
end Go.Proofs.Ytmnbpamaiboghaa

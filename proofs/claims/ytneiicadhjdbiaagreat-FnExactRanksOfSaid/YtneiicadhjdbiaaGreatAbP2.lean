/- The compact code of functions, and that it is theirs. The law's own helpers, walked: over whole numbers, teams, rules, games. The law's own helpers, walked, second part: over slices of teams and of games. The law's own helpers, walked, third part: copies, comparisons and sizes of a whole book. The law's own helpers, walked, fourth part: a whole book copied, measured, marked, held. The law's own helpers, walked, fifth part: marks, and what holds them. The law's own helpers, walked, sixth part: marks of whole numbers, teams, games, rules; what holds whole numbers. The law's own helpers, walked, seventh part: an own copy of a book; its marks. One block handed over to a callee that writes it; marks of a book. Small functions of the reference and of the program, walked: ranges, names, teams. The reference's checks of a field, of rules, of games and of a season, walked. The reference's checks of rules, of games, of a season and of a book, walked. The reference's checks of rules and of a book, walked. Go's slices functions that take a function, and their calls: walked. -/
import Derived.Test.YtneiicadhjdbiaaGreatAbP1
import Derived.KernelRfl
set_option linter.unusedVariables false
set_option linter.unusedSimpArgs false

namespace Go.Proofs.YtneiicadhjdbiaaGreat.Ab
open Go

def c_slices_Clone_int : CC := (.seq (.ops [⟨(some 2), none, (.f (.mv .nil))⟩]) (.seq (.seq (.ops [⟨(some 3), none, (.f (.mv (.t 0)))⟩, ⟨(some 4), none, (.f (.isnil false (.t 3)))⟩]) (.cond (.t 4) (.seq (.ops [⟨(some 2), none, (.f (.mv .nil))⟩]) .ret) .skip)) (.seq (.ops [⟨(some 5), none, (.e (.mks 1 0 [(.v (.int .i64 0))] []))⟩, ⟨(some 6), none, (.f (.mv (.t 0)))⟩, ⟨(some 7), none, (.e (.app 1 8 (.t 5) (.t 6)))⟩, ⟨(some 2), none, (.f (.mv (.t 7)))⟩]) .ret)))
theorem k_slices_Clone_int : compFn Tryz.prog [] F.slices_Clone_int = some (c_slices_Clone_int, [(.t 2)], 8) := by kernel_rfl

def c_impl_isKey : CC := (.seq (.ops [⟨(some 2), none, (.f (.mv (.k (.bool false))))⟩]) (.seq (.ops [⟨(some 3), none, (.f (.mv (.t 0)))⟩, ⟨(some 4), none, (.e (.call false F.impl_within [(.t 3), (.k (.int .i64 1)), (.k (.int .i64 8))]))⟩, ⟨(some 2), none, (.f (.mv (.t 4)))⟩]) .ret))
theorem k_impl_isKey : compFn Tryz.prog [] F.impl_isKey = some (c_impl_isKey, [(.t 2)], 5) := by kernel_rfl

def c_slices_Index_int : CC := (.seq (.ops [⟨(some 4), none, (.f (.mv (.k (.int .i64 0))))⟩]) (.seq (.seq (.ops [⟨(some 6), none, (.f (.mv (.t 0)))⟩, ⟨(some 7), none, (.f (.len (.t 6)))⟩, ⟨(some 8), none, (.f (.mv (.k (.int .i64 0))))⟩]) (.block 0 (.loop (.seq (.ops [⟨(some 9), none, (.f (.bin .lss (.t 8) (.t 7)))⟩]) (.seq (.cond (.t 9) .skip (.exit 0)) (.seq (.block 1 (.seq (.ops [⟨(some 10), none, (.f (.mv (.t 8)))⟩, ⟨(some 5), none, (.f (.mv (.t 10)))⟩]) (.seq (.ops [⟨(some 11), none, (.f (.mv (.t 1)))⟩, ⟨(some 12), none, (.f (.mv (.t 0)))⟩, ⟨(some 13), none, (.f (.mv (.t 5)))⟩, ⟨(some 14), none, (.f (.ia 1 (.t 12) (.t 13)))⟩, ⟨(some 15), none, (.f (.ld1 (.t 14)))⟩, ⟨(some 16), none, (.f (.bin .eql (.t 11) (.t 15)))⟩]) (.cond (.t 16) (.seq (.ops [⟨(some 17), none, (.f (.mv (.t 5)))⟩, ⟨(some 4), none, (.f (.mv (.t 17)))⟩]) .ret) .skip)))) (.ops [⟨(some 18), none, (.f (.bin .add (.t 8) (.k (.int .i64 1))))⟩, ⟨(some 8), none, (.f (.mv (.t 18)))⟩]))))))) (.seq (.ops [⟨(some 4), none, (.f (.mv (.k (.int .i64 (-1)))))⟩]) .ret)))
theorem k_slices_Index_int : compFn Tryz.prog [] F.slices_Index_int = some (c_slices_Index_int, [(.t 4)], 19) := by kernel_rfl

def c_spec_OpenGames : CC := (.seq (.ops [⟨(some 2), none, (.f (.mv .nil))⟩]) (.seq (.ops [⟨(some 6), none, (.e (.mks 1 0 [(.v (.int .i64 0))] []))⟩, ⟨(some 3), none, (.f (.mv (.t 6)))⟩]) (.seq (.seq (.ops [⟨(some 7), none, (.f (.mv (.t 0)))⟩, ⟨(some 8), none, (.f (.len (.t 7)))⟩, ⟨(some 9), none, (.f (.mv (.k (.int .i64 0))))⟩]) (.block 0 (.loop (.seq (.ops [⟨(some 10), none, (.f (.bin .lss (.t 9) (.t 8)))⟩]) (.seq (.cond (.t 10) .skip (.exit 0)) (.seq (.block 1 (.seq (.ops [⟨(some 11), none, (.f (.mv (.t 9)))⟩, ⟨(some 12), none, (.f (.ia 5 (.t 7) (.t 9)))⟩, ⟨(some 13), none, (.f (.ld 5 (.t 12)))⟩, ⟨(some 5), none, (.e (.new [(.v (.int .i64 0)), (.v (.int .i64 0)), (.v (.int .i64 0)), (.v (.int .i64 0)), (.v (.int .i64 0))]))⟩, ⟨(some 4), none, (.f (.mv (.t 11)))⟩, ⟨none, none, (.e (.st 5 (.t 5) (.t 13)))⟩]) (.seq (.ops [⟨(some 14), none, (.f (.ld 5 (.t 5)))⟩, ⟨(some 15), none, (.e (.call false F.spec_IsOpen [(.t 14)]))⟩]) (.cond (.t 15) (.ops [⟨(some 16), none, (.f (.mv (.t 3)))⟩, ⟨(some 17), none, (.f (.mv (.t 4)))⟩, ⟨(some 18), none, (.e (.mks 1 1 [(.v (.int .i64 0))] [(0, (1, (.t 17)))]))⟩, ⟨(some 19), none, (.e (.app 1 8 (.t 16) (.t 18)))⟩, ⟨(some 3), none, (.f (.mv (.t 19)))⟩]) .skip)))) (.ops [⟨(some 20), none, (.f (.bin .add (.t 9) (.k (.int .i64 1))))⟩, ⟨(some 9), none, (.f (.mv (.t 20)))⟩]))))))) (.seq (.ops [⟨(some 21), none, (.f (.mv (.t 3)))⟩, ⟨(some 2), none, (.f (.mv (.t 21)))⟩]) .ret))))
theorem k_spec_OpenGames : compFn Tryz.prog [] F.spec_OpenGames = some (c_spec_OpenGames, [(.t 2)], 22) := by kernel_rfl

def c_spec_PlayGame : CC := (.seq (.ops [⟨(some 2), none, (.e (.box (.t 0)))⟩, ⟨(some 4), none, (.e (.new [(.v (.int .i64 0)), (.v (.int .i64 0)), (.v (.int .i64 0)), (.v (.int .i64 0)), (.v (.int .i64 0))]))⟩]) (.seq (.seq (.ops [⟨(some 5), none, (.f (.mv (.t 1)))⟩, ⟨(some 6), none, (.e (.call false F.spec_l01In [(.t 5), (.k (.int .i64 1)), (.k (.int .i64 3))]))⟩, ⟨(some 7), none, (.f (.not (.t 6)))⟩]) (.cond (.t 7) (.seq (.ops [⟨(some 8), none, (.f (.ld 5 (.t 2)))⟩, ⟨none, none, (.e (.st 5 (.t 4) (.t 8)))⟩]) .ret) .skip)) (.seq (.ops [⟨(some 9), none, (.f (.fa 4 (.t 2)))⟩, ⟨none, none, (.e (.st 1 (.t 9) (.k (.int .i64 1))))⟩]) (.seq (.ops [⟨(some 10), none, (.f (.fa 2 (.t 2)))⟩, ⟨none, none, (.e (.st 1 (.t 10) (.k (.int .i64 0))))⟩]) (.seq (.ops [⟨(some 11), none, (.f (.fa 3 (.t 2)))⟩, ⟨none, none, (.e (.st 1 (.t 11) (.k (.int .i64 0))))⟩]) (.seq (.seq (.ops [⟨(some 12), none, (.f (.mv (.t 1)))⟩, ⟨(some 13), none, (.f (.bin .eql (.t 12) (.k (.int .i64 1))))⟩]) (.cond (.t 13) (.ops [⟨(some 14), none, (.f (.fa 2 (.t 2)))⟩, ⟨none, none, (.e (.st 1 (.t 14) (.k (.int .i64 1))))⟩]) .skip)) (.seq (.seq (.ops [⟨(some 15), none, (.f (.mv (.t 1)))⟩, ⟨(some 16), none, (.f (.bin .eql (.t 15) (.k (.int .i64 3))))⟩]) (.cond (.t 16) (.ops [⟨(some 17), none, (.f (.fa 3 (.t 2)))⟩, ⟨none, none, (.e (.st 1 (.t 17) (.k (.int .i64 1))))⟩]) .skip)) (.seq (.ops [⟨(some 18), none, (.f (.ld 5 (.t 2)))⟩, ⟨none, none, (.e (.st 5 (.t 4) (.t 18)))⟩]) .ret))))))))
theorem k_spec_PlayGame : compFn Tryz.prog [] F.spec_PlayGame = some (c_spec_PlayGame, [(.cl 5 4)], 19) := by kernel_rfl

def c_impl_gamesWhere : CC := (.seq (.ops [⟨(some 4), none, (.f (.mv .nil))⟩]) (.seq (.ops [⟨(some 8), none, (.e (.mks 1 0 [(.v (.int .i64 0))] []))⟩, ⟨(some 5), none, (.f (.mv (.t 8)))⟩]) (.seq (.seq (.ops [⟨(some 9), none, (.f (.mv (.t 0)))⟩, ⟨(some 10), none, (.f (.len (.t 9)))⟩, ⟨(some 11), none, (.f (.mv (.k (.int .i64 0))))⟩]) (.block 0 (.loop (.seq (.ops [⟨(some 12), none, (.f (.bin .lss (.t 11) (.t 10)))⟩]) (.seq (.cond (.t 12) .skip (.exit 0)) (.seq (.block 1 (.seq (.ops [⟨(some 13), none, (.f (.mv (.t 11)))⟩, ⟨(some 14), none, (.f (.ia 5 (.t 9) (.t 11)))⟩, ⟨(some 15), none, (.f (.ld 5 (.t 14)))⟩, ⟨(some 7), none, (.e (.new [(.v (.int .i64 0)), (.v (.int .i64 0)), (.v (.int .i64 0)), (.v (.int .i64 0)), (.v (.int .i64 0))]))⟩, ⟨(some 6), none, (.f (.mv (.t 13)))⟩, ⟨none, none, (.e (.st 5 (.t 7) (.t 15)))⟩]) (.seq (.ops [⟨(some 16), none, (.f (.mv (.t 1)))⟩, ⟨(some 17), none, (.f (.ld 5 (.t 7)))⟩, ⟨(some 18), none, (.e (.callv false (.t 16) [(.t 17)]))⟩]) (.cond (.t 18) (.ops [⟨(some 19), none, (.f (.mv (.t 5)))⟩, ⟨(some 20), none, (.f (.mv (.t 6)))⟩, ⟨(some 21), none, (.e (.mks 1 1 [(.v (.int .i64 0))] [(0, (1, (.t 20)))]))⟩, ⟨(some 22), none, (.e (.app 1 8 (.t 19) (.t 21)))⟩, ⟨(some 5), none, (.f (.mv (.t 22)))⟩]) .skip)))) (.ops [⟨(some 23), none, (.f (.bin .add (.t 11) (.k (.int .i64 1))))⟩, ⟨(some 11), none, (.f (.mv (.t 23)))⟩]))))))) (.seq (.ops [⟨(some 24), none, (.f (.mv (.t 5)))⟩, ⟨(some 4), none, (.f (.mv (.t 24)))⟩]) .ret))))
theorem k_impl_gamesWhere : compFn Tryz.prog [] F.impl_gamesWhere = some (c_impl_gamesWhere, [(.t 4)], 25) := by kernel_rfl

def c_impl_IsOpen : CC := (.seq (.ops [⟨(some 1), none, (.e (.box (.t 0)))⟩, ⟨(some 2), none, (.f (.mv (.k (.bool false))))⟩]) (.seq (.ops [⟨(some 3), none, (.f (.fa 4 (.t 1)))⟩, ⟨(some 4), none, (.f (.ld1 (.t 3)))⟩, ⟨(some 5), none, (.f (.bin .eql (.t 4) (.k (.int .i64 0))))⟩, ⟨(some 2), none, (.f (.mv (.t 5)))⟩]) .ret))
theorem k_impl_IsOpen : compFn Tryz.prog [] F.impl_IsOpen = some (c_impl_IsOpen, [(.t 2)], 6) := by kernel_rfl

def c_impl_rankerOf : CC := (.seq (.ops [⟨(some 1), none, (.e (.box (.t 0)))⟩, ⟨(some 2), none, (.e (.new [.nil, (.v (.int .i64 0)), (.v (.int .i64 0)), (.v (.int .i64 0)), .nil, (.v (.bool false)), .nil, .nil, .nil, .nil]))⟩]) (.seq (.ops [⟨(some 3), none, (.f (.ld 9 (.t 1)))⟩, ⟨(some 4), none, (.f (.fa 1 (.t 1)))⟩, ⟨(some 5), none, (.f (.ld 5 (.t 4)))⟩, ⟨(some 6), none, (.f (.fa 0 (.t 1)))⟩, ⟨(some 7), none, (.f (.ld1 (.t 6)))⟩, ⟨(some 8), none, (.f (.len (.t 7)))⟩, ⟨(some 9), none, (.f (.fa 6 (.t 1)))⟩, ⟨(some 10), none, (.f (.ld1 (.t 9)))⟩, ⟨(some 11), none, (.e (.call true F.impl_tableOf [(.t 5), (.t 8), (.t 10), (.f F.impl_rankerOf_c1)]))⟩, ⟨(some 12), none, (.f (.build [.nil, (.v (.int .i64 0)), (.v (.int .i64 0)), (.v (.int .i64 0)), .nil, (.v (.bool false)), .nil, .nil, .nil, .nil] [(0, (9, (.t 3))), (9, (1, (.t 11)))]))⟩, ⟨none, none, (.e (.st 10 (.t 2) (.t 12)))⟩]) .ret))
theorem k_impl_rankerOf : compFn Tryz.prog [] F.impl_rankerOf = some (c_impl_rankerOf, [(.cl 10 2)], 13) := by kernel_rfl

def c_impl_ranker_rank : CC := (.seq (.ops [⟨(some 3), none, (.e (.box (.t 0)))⟩, ⟨(some 6), none, (.f (.mv .nil))⟩]) (.seq (.seq (.ops [⟨(some 11), none, (.f (.mv (.t 1)))⟩, ⟨(some 12), none, (.f (.len (.t 11)))⟩, ⟨(some 13), none, (.f (.bin .eql (.t 12) (.k (.int .i64 0))))⟩]) (.cond (.t 13) (.seq (.ops [⟨(some 6), none, (.f (.mv .nil))⟩]) .ret) .skip)) (.seq (.seq (.ops [⟨(some 14), none, (.f (.mv (.t 1)))⟩, ⟨(some 15), none, (.f (.len (.t 14)))⟩, ⟨(some 16), none, (.f (.bin .eql (.t 15) (.k (.int .i64 1))))⟩, ⟨(some 17), none, (.f (.mv (.t 16)))⟩, ⟨(some 18), (some (17, false)), (.f (.mv (.t 2)))⟩, ⟨(some 19), (some (17, false)), (.f (.fa 0 (.t 3)))⟩, ⟨(some 20), (some (17, false)), (.f (.fa 1 (.t 19)))⟩, ⟨(some 21), (some (17, false)), (.f (.fa 3 (.t 20)))⟩, ⟨(some 22), (some (17, false)), (.f (.ld1 (.t 21)))⟩, ⟨(some 23), (some (17, false)), (.f (.len (.t 22)))⟩, ⟨(some 24), (some (17, false)), (.f (.bin .geq (.t 18) (.t 23)))⟩, ⟨(some 25), none, (.f (.pick (.t 17) (.k (.bool true)) (.t 24)))⟩]) (.cond (.t 25) (.seq (.ops [⟨(some 26), none, (.f (.mv (.t 1)))⟩, ⟨(some 27), none, (.e (.call false F.slices_Clone_int [(.t 26)]))⟩, ⟨(some 28), none, (.e (.mks 1 1 [.nil] [(0, (1, (.t 27)))]))⟩, ⟨(some 6), none, (.f (.mv (.t 28)))⟩]) .ret) .skip)) (.seq (.alt (.op ⟨(some 29), none, (.f (.ld 10 (.t 3)))⟩ (.op ⟨(some 30), none, (.f (.fa 0 (.t 3)))⟩ (.op ⟨(some 31), none, (.f (.fa 1 (.t 30)))⟩ (.op ⟨(some 32), none, (.f (.fa 3 (.t 31)))⟩ (.op ⟨(some 33), none, (.f (.ld1 (.t 32)))⟩ (.op ⟨(some 34), none, (.f (.mv (.t 2)))⟩ (.op ⟨(some 35), none, (.f (.ia 1 (.t 33) (.t 34)))⟩ (.op ⟨(some 36), none, (.f (.ld1 (.t 35)))⟩ (.op ⟨(some 37), none, (.f (.mv (.t 1)))⟩ (.alt (.op ⟨(some 38), none, (.e (.call false F.impl_ranker_split [(.t 29), (.t 36), (.t 37)]))⟩ (.op ⟨(some 7), none, (.f (.mv (.t 38)))⟩ (.op ⟨(some 39), none, (.e (.mks 1 0 [.nil] []))⟩ (.op ⟨(some 8), none, (.f (.mv (.t 39)))⟩ .done)))) (.op ⟨(some 39), none, (.e (.mks 1 0 [.nil] []))⟩ (.op ⟨(some 38), none, (.e (.call false F.impl_ranker_split [(.t 29), (.t 36), (.t 37)]))⟩ (.op ⟨(some 7), none, (.f (.mv (.t 38)))⟩ (.op ⟨(some 8), none, (.f (.mv (.t 39)))⟩ .done))))))))))))))) (.seq (.seq (.ops [⟨(some 40), none, (.f (.mv (.t 7)))⟩, ⟨(some 41), none, (.f (.len (.t 40)))⟩, ⟨(some 42), none, (.f (.mv (.k (.int .i64 0))))⟩]) (.block 0 (.loop (.seq (.ops [⟨(some 43), none, (.f (.bin .lss (.t 42) (.t 41)))⟩]) (.seq (.cond (.t 43) .skip (.exit 0)) (.seq (.block 1 (.seq (.ops [⟨(some 44), none, (.f (.ia 1 (.t 40) (.t 42)))⟩, ⟨(some 45), none, (.f (.ld1 (.t 44)))⟩, ⟨(some 10), none, (.f (.mv (.t 45)))⟩]) (.ops [⟨(some 46), none, (.f (.mv (.t 8)))⟩, ⟨(some 47), none, (.f (.ld 10 (.t 3)))⟩, ⟨(some 48), none, (.f (.mv (.t 10)))⟩, ⟨(some 49), none, (.f (.ld 10 (.t 3)))⟩, ⟨(some 50), none, (.f (.mv (.t 2)))⟩, ⟨(some 51), none, (.f (.mv (.t 7)))⟩, ⟨(some 52), none, (.e (.call true F.impl_ranker_next [(.t 49), (.t 50), (.t 51)]))⟩, ⟨(some 53), none, (.e (.call false F.impl_ranker_rank [(.t 47), (.t 48), (.t 52)]))⟩, ⟨(some 54), none, (.e (.app 1 24 (.t 46) (.t 53)))⟩, ⟨(some 8), none, (.f (.mv (.t 54)))⟩]))) (.ops [⟨(some 55), none, (.f (.bin .add (.t 42) (.k (.int .i64 1))))⟩, ⟨(some 42), none, (.f (.mv (.t 55)))⟩]))))))) (.seq (.ops [⟨(some 56), none, (.f (.mv (.t 8)))⟩, ⟨(some 6), none, (.f (.mv (.t 56)))⟩]) .ret))))))
theorem k_impl_ranker_rank : compFn Tryz.prog [] F.impl_ranker_rank = some (c_impl_ranker_rank, [(.t 6)], 57) := by kernel_rfl

def c_impl_PlayGame : CC := (.seq (.ops [⟨(some 2), none, (.e (.box (.t 0)))⟩, ⟨(some 4), none, (.e (.new [(.v (.int .i64 0)), (.v (.int .i64 0)), (.v (.int .i64 0)), (.v (.int .i64 0)), (.v (.int .i64 0))]))⟩]) (.seq (.seq (.ops [⟨(some 6), none, (.f (.mv (.t 1)))⟩, ⟨(some 7), none, (.e (.call false F.impl_within [(.t 6), (.k (.int .i64 1)), (.k (.int .i64 3))]))⟩, ⟨(some 8), none, (.f (.not (.t 7)))⟩]) (.cond (.t 8) (.seq (.ops [⟨(some 9), none, (.f (.ld 5 (.t 2)))⟩, ⟨none, none, (.e (.st 5 (.t 4) (.t 9)))⟩]) .ret) .skip)) (.seq (.ops [⟨(some 10), none, (.f (.fa 0 (.t 2)))⟩, ⟨(some 11), none, (.f (.ld1 (.t 10)))⟩, ⟨(some 12), none, (.f (.fa 1 (.t 2)))⟩, ⟨(some 13), none, (.f (.ld1 (.t 12)))⟩, ⟨(some 14), none, (.f (.build [(.v (.int .i64 0)), (.v (.int .i64 0)), (.v (.int .i64 0)), (.v (.int .i64 0)), (.v (.int .i64 0))] [(0, (1, (.t 11))), (1, (1, (.t 13))), (4, (1, (.k (.int .i64 1))))]))⟩, ⟨(some 5), none, (.e (.new [(.v (.int .i64 0)), (.v (.int .i64 0)), (.v (.int .i64 0)), (.v (.int .i64 0)), (.v (.int .i64 0))]))⟩, ⟨none, none, (.e (.st 5 (.t 5) (.t 14)))⟩]) (.seq (.seq (.ops [⟨(some 15), none, (.f (.mv (.t 1)))⟩, ⟨(some 16), none, (.f (.bin .eql (.t 15) (.k (.int .i64 1))))⟩]) (.cond (.t 16) (.ops [⟨(some 17), none, (.f (.fa 2 (.t 5)))⟩, ⟨none, none, (.e (.st 1 (.t 17) (.k (.int .i64 1))))⟩]) .skip)) (.seq (.seq (.ops [⟨(some 18), none, (.f (.mv (.t 1)))⟩, ⟨(some 19), none, (.f (.bin .eql (.t 18) (.k (.int .i64 3))))⟩]) (.cond (.t 19) (.ops [⟨(some 20), none, (.f (.fa 3 (.t 5)))⟩, ⟨none, none, (.e (.st 1 (.t 20) (.k (.int .i64 1))))⟩]) .skip)) (.seq (.ops [⟨(some 21), none, (.f (.ld 5 (.t 5)))⟩, ⟨none, none, (.e (.st 5 (.t 4) (.t 21)))⟩]) .ret))))))
theorem k_impl_PlayGame : compFn Tryz.prog [] F.impl_PlayGame = some (c_impl_PlayGame, [(.cl 5 4)], 22) := by kernel_rfl

def c_spec_TeamOk : CC := (.seq (.ops [⟨(some 1), none, (.e (.box (.t 0)))⟩, ⟨(some 2), none, (.f (.mv (.k (.bool false))))⟩]) (.seq (.ops [⟨(some 3), none, (.f (.fa 0 (.t 1)))⟩, ⟨(some 4), none, (.f (.ld1 (.t 3)))⟩, ⟨(some 5), none, (.e (.call false F.spec_IsName [(.t 4)]))⟩, ⟨(some 6), none, (.f (.mv (.t 5)))⟩, ⟨(some 7), (some (6, true)), (.f (.fa 1 (.t 1)))⟩, ⟨(some 8), (some (6, true)), (.f (.ld1 (.t 7)))⟩, ⟨(some 9), (some (6, true)), (.e (.call false F.spec_l01In [(.t 8), (.k (.int .i64 0)), (.k (.int .i64 5))]))⟩, ⟨(some 10), none, (.f (.pick (.t 6) (.t 9) (.k (.bool false))))⟩, ⟨(some 11), none, (.f (.mv (.t 10)))⟩, ⟨(some 12), (some (11, true)), (.f (.fa 2 (.t 1)))⟩, ⟨(some 13), (some (11, true)), (.f (.ld1 (.t 12)))⟩, ⟨(some 14), (some (11, true)), (.e (.call false F.spec_l01In [(.t 13), (.k (.int .i64 1)), (.k (.int .i64 8))]))⟩, ⟨(some 15), none, (.f (.pick (.t 11) (.t 14) (.k (.bool false))))⟩, ⟨(some 2), none, (.f (.mv (.t 15)))⟩]) .ret))
theorem k_spec_TeamOk : compFn Tryz.prog [] F.spec_TeamOk = some (c_spec_TeamOk, [(.t 2)], 16) := by kernel_rfl

def c_spec_GameOk : CC := (.seq (.ops [⟨(some 3), none, (.e (.box (.t 1)))⟩, ⟨(some 4), none, (.f (.mv (.k (.bool false))))⟩]) (.seq (.seq (.ops [⟨(some 5), none, (.f (.mv (.t 0)))⟩, ⟨(some 6), none, (.e (.call false F.spec_l01In [(.t 5), (.k (.int .i64 2)), (.k (.int .i64 8))]))⟩, ⟨(some 7), none, (.f (.not (.t 6)))⟩, ⟨(some 8), none, (.f (.mv (.t 7)))⟩, ⟨(some 9), (some (8, false)), (.f (.fa 0 (.t 3)))⟩, ⟨(some 10), (some (8, false)), (.f (.ld1 (.t 9)))⟩, ⟨(some 11), (some (8, false)), (.f (.mv (.t 0)))⟩, ⟨(some 12), (some (8, false)), (.f (.bin .sub (.t 11) (.k (.int .i64 1))))⟩, ⟨(some 13), (some (8, false)), (.e (.call false F.spec_l01In [(.t 10), (.k (.int .i64 0)), (.t 12)]))⟩, ⟨(some 14), (some (8, false)), (.f (.not (.t 13)))⟩, ⟨(some 15), none, (.f (.pick (.t 8) (.k (.bool true)) (.t 14)))⟩, ⟨(some 16), none, (.f (.mv (.t 15)))⟩, ⟨(some 17), (some (16, false)), (.f (.fa 1 (.t 3)))⟩, ⟨(some 18), (some (16, false)), (.f (.ld1 (.t 17)))⟩, ⟨(some 19), (some (16, false)), (.f (.mv (.t 0)))⟩, ⟨(some 20), (some (16, false)), (.f (.bin .sub (.t 19) (.k (.int .i64 1))))⟩, ⟨(some 21), (some (16, false)), (.e (.call false F.spec_l01In [(.t 18), (.k (.int .i64 0)), (.t 20)]))⟩, ⟨(some 22), (some (16, false)), (.f (.not (.t 21)))⟩, ⟨(some 23), none, (.f (.pick (.t 16) (.k (.bool true)) (.t 22)))⟩, ⟨(some 24), none, (.f (.mv (.t 23)))⟩, ⟨(some 25), (some (24, false)), (.f (.fa 0 (.t 3)))⟩, ⟨(some 26), (some (24, false)), (.f (.ld1 (.t 25)))⟩, ⟨(some 27), (some (24, false)), (.f (.fa 1 (.t 3)))⟩, ⟨(some 28), (some (24, false)), (.f (.ld1 (.t 27)))⟩, ⟨(some 29), (some (24, false)), (.f (.bin .eql (.t 26) (.t 28)))⟩, ⟨(some 30), none, (.f (.pick (.t 24) (.k (.bool true)) (.t 29)))⟩, ⟨(some 31), none, (.f (.mv (.t 30)))⟩, ⟨(some 32), (some (31, false)), (.f (.fa 4 (.t 3)))⟩, ⟨(some 33), (some (31, false)), (.f (.ld1 (.t 32)))⟩, ⟨(some 34), (some (31, false)), (.e (.call false F.spec_l01In [(.t 33), (.k (.int .i64 0)), (.k (.int .i64 4))]))⟩, ⟨(some 35), (some (31, false)), (.f (.not (.t 34)))⟩, ⟨(some 36), none, (.f (.pick (.t 31) (.k (.bool true)) (.t 35)))⟩]) (.cond (.t 36) (.seq (.ops [⟨(some 4), none, (.f (.mv (.k (.bool false))))⟩]) .ret) .skip)) (.seq (.seq (.ops [⟨(some 37), none, (.f (.fa 4 (.t 3)))⟩, ⟨(some 38), none, (.f (.ld1 (.t 37)))⟩, ⟨(some 39), none, (.f (.bin .neq (.t 38) (.k (.int .i64 1))))⟩]) (.cond (.t 39) (.seq (.ops [⟨(some 40), none, (.f (.fa 2 (.t 3)))⟩, ⟨(some 41), none, (.f (.ld1 (.t 40)))⟩, ⟨(some 42), none, (.f (.bin .eql (.t 41) (.k (.int .i64 0))))⟩, ⟨(some 43), none, (.f (.mv (.t 42)))⟩, ⟨(some 44), (some (43, true)), (.f (.fa 3 (.t 3)))⟩, ⟨(some 45), (some (43, true)), (.f (.ld1 (.t 44)))⟩, ⟨(some 46), (some (43, true)), (.f (.bin .eql (.t 45) (.k (.int .i64 0))))⟩, ⟨(some 47), none, (.f (.pick (.t 43) (.t 46) (.k (.bool false))))⟩, ⟨(some 4), none, (.f (.mv (.t 47)))⟩]) .ret) .skip)) (.seq (.ops [⟨(some 48), none, (.f (.fa 2 (.t 3)))⟩, ⟨(some 49), none, (.f (.ld1 (.t 48)))⟩, ⟨(some 50), none, (.e (.call false F.spec_l01In [(.t 49), (.k (.int .i64 0)), (.k (.int .i64 99))]))⟩, ⟨(some 51), none, (.f (.mv (.t 50)))⟩, ⟨(some 52), (some (51, true)), (.f (.fa 3 (.t 3)))⟩, ⟨(some 53), (some (51, true)), (.f (.ld1 (.t 52)))⟩, ⟨(some 54), (some (51, true)), (.e (.call false F.spec_l01In [(.t 53), (.k (.int .i64 0)), (.k (.int .i64 99))]))⟩, ⟨(some 55), none, (.f (.pick (.t 51) (.t 54) (.k (.bool false))))⟩, ⟨(some 4), none, (.f (.mv (.t 55)))⟩]) .ret))))
theorem k_spec_GameOk : compFn Tryz.prog [] F.spec_GameOk = some (c_spec_GameOk, [(.t 4)], 56) := by kernel_rfl

def c_spec_GameOf : CC := (.seq (.ops [⟨(some 6), none, (.f (.mv (.k (.int .i64 0))))⟩]) (.seq (.seq (.ops [⟨(some 9), none, (.f (.mv (.t 0)))⟩, ⟨(some 10), none, (.f (.len (.t 9)))⟩, ⟨(some 11), none, (.f (.mv (.k (.int .i64 0))))⟩]) (.block 0 (.loop (.seq (.ops [⟨(some 12), none, (.f (.bin .lss (.t 11) (.t 10)))⟩]) (.seq (.cond (.t 12) .skip (.exit 0)) (.seq (.block 1 (.seq (.ops [⟨(some 13), none, (.f (.mv (.t 11)))⟩, ⟨(some 14), none, (.f (.ia 5 (.t 9) (.t 11)))⟩, ⟨(some 15), none, (.f (.ld 5 (.t 14)))⟩, ⟨(some 8), none, (.e (.new [(.v (.int .i64 0)), (.v (.int .i64 0)), (.v (.int .i64 0)), (.v (.int .i64 0)), (.v (.int .i64 0))]))⟩, ⟨(some 7), none, (.f (.mv (.t 13)))⟩, ⟨none, none, (.e (.st 5 (.t 8) (.t 15)))⟩]) (.seq (.ops [⟨(some 16), none, (.f (.fa 0 (.t 8)))⟩, ⟨(some 17), none, (.f (.ld1 (.t 16)))⟩, ⟨(some 18), none, (.f (.mv (.t 1)))⟩, ⟨(some 19), none, (.f (.bin .eql (.t 17) (.t 18)))⟩, ⟨(some 20), none, (.f (.mv (.t 19)))⟩, ⟨(some 21), (some (20, true)), (.f (.fa 1 (.t 8)))⟩, ⟨(some 22), (some (20, true)), (.f (.ld1 (.t 21)))⟩, ⟨(some 23), (some (20, true)), (.f (.mv (.t 2)))⟩, ⟨(some 24), (some (20, true)), (.f (.bin .eql (.t 22) (.t 23)))⟩, ⟨(some 25), none, (.f (.pick (.t 20) (.t 24) (.k (.bool false))))⟩]) (.cond (.t 25) (.seq (.ops [⟨(some 26), none, (.f (.mv (.t 7)))⟩, ⟨(some 6), none, (.f (.mv (.t 26)))⟩]) .ret) .skip)))) (.ops [⟨(some 27), none, (.f (.bin .add (.t 11) (.k (.int .i64 1))))⟩, ⟨(some 11), none, (.f (.mv (.t 27)))⟩]))))))) (.seq (.ops [⟨(some 6), none, (.f (.mv (.k (.int .i64 (-1)))))⟩]) .ret)))
theorem k_spec_GameOf : compFn Tryz.prog [] F.spec_GameOf = some (c_spec_GameOf, [(.t 6)], 28) := by kernel_rfl

def c_spec_IsOpen : CC := (.seq (.ops [⟨(some 1), none, (.e (.box (.t 0)))⟩, ⟨(some 2), none, (.f (.mv (.k (.bool false))))⟩]) (.seq (.ops [⟨(some 3), none, (.f (.fa 4 (.t 1)))⟩, ⟨(some 4), none, (.f (.ld1 (.t 3)))⟩, ⟨(some 5), none, (.f (.bin .eql (.t 4) (.k (.int .i64 0))))⟩, ⟨(some 2), none, (.f (.mv (.t 5)))⟩]) .ret))
theorem k_spec_IsOpen : compFn Tryz.prog [] F.spec_IsOpen = some (c_spec_IsOpen, [(.t 2)], 6) := by kernel_rfl

def c_spec_l07Teams : CC := (.seq (.ops [⟨(some 2), none, (.e (.box (.t 0)))⟩, ⟨(some 4), none, (.f (.mv (.k (.bool false))))⟩]) (.seq (.seq (.ops [⟨(some 7), none, (.f (.mv (.t 1)))⟩, ⟨(some 8), none, (.f (.len (.t 7)))⟩, ⟨(some 9), none, (.f (.mv (.k (.int .i64 0))))⟩]) (.block 0 (.loop (.seq (.ops [⟨(some 10), none, (.f (.bin .lss (.t 9) (.t 8)))⟩]) (.seq (.cond (.t 10) .skip (.exit 0)) (.seq (.block 1 (.seq (.ops [⟨(some 11), none, (.f (.ia 1 (.t 7) (.t 9)))⟩, ⟨(some 12), none, (.f (.ld1 (.t 11)))⟩, ⟨(some 6), none, (.f (.mv (.t 12)))⟩]) (.seq (.ops [⟨(some 13), none, (.f (.mv (.t 6)))⟩, ⟨(some 14), none, (.f (.fa 0 (.t 2)))⟩, ⟨(some 15), none, (.f (.ld1 (.t 14)))⟩, ⟨(some 16), none, (.f (.len (.t 15)))⟩, ⟨(some 17), none, (.f (.bin .sub (.t 16) (.k (.int .i64 1))))⟩, ⟨(some 18), none, (.e (.call false F.spec_l01In [(.t 13), (.k (.int .i64 0)), (.t 17)]))⟩, ⟨(some 19), none, (.f (.not (.t 18)))⟩]) (.cond (.t 19) (.seq (.ops [⟨(some 4), none, (.f (.mv (.k (.bool false))))⟩]) .ret) .skip)))) (.ops [⟨(some 20), none, (.f (.bin .add (.t 9) (.k (.int .i64 1))))⟩, ⟨(some 9), none, (.f (.mv (.t 20)))⟩]))))))) (.seq (.ops [⟨(some 4), none, (.f (.mv (.k (.bool true))))⟩]) .ret)))
theorem k_spec_l07Teams : compFn Tryz.prog [] F.spec_l07Teams = some (c_spec_l07Teams, [(.t 4)], 21) := by kernel_rfl

def c_spec_l07Rank : CC := (.seq (.ops [⟨(some 3), none, (.e (.box (.t 0)))⟩, ⟨(some 6), none, (.f (.mv .nil))⟩]) (.seq (.seq (.ops [⟨(some 13), none, (.f (.mv (.t 1)))⟩, ⟨(some 14), none, (.f (.len (.t 13)))⟩, ⟨(some 15), none, (.f (.bin .eql (.t 14) (.k (.int .i64 0))))⟩]) (.cond (.t 15) (.seq (.ops [⟨(some 16), none, (.e (.mks 1 0 [.nil] []))⟩, ⟨(some 6), none, (.f (.mv (.t 16)))⟩]) .ret) .skip)) (.seq (.seq (.ops [⟨(some 17), none, (.f (.mv (.t 1)))⟩, ⟨(some 18), none, (.f (.len (.t 17)))⟩, ⟨(some 19), none, (.f (.bin .eql (.t 18) (.k (.int .i64 1))))⟩, ⟨(some 20), none, (.f (.mv (.t 19)))⟩, ⟨(some 21), (some (20, false)), (.f (.mv (.t 2)))⟩, ⟨(some 22), (some (20, false)), (.f (.fa 1 (.t 3)))⟩, ⟨(some 23), (some (20, false)), (.f (.fa 3 (.t 22)))⟩, ⟨(some 24), (some (20, false)), (.f (.ld1 (.t 23)))⟩, ⟨(some 25), (some (20, false)), (.f (.len (.t 24)))⟩, ⟨(some 26), (some (20, false)), (.f (.bin .geq (.t 21) (.t 25)))⟩, ⟨(some 27), none, (.f (.pick (.t 20) (.k (.bool true)) (.t 26)))⟩]) (.cond (.t 27) (.seq (.ops [⟨(some 28), none, (.e (.mks 1 0 [(.v (.int .i64 0))] []))⟩, ⟨(some 29), none, (.f (.mv (.t 1)))⟩, ⟨(some 30), none, (.e (.app 1 8 (.t 28) (.t 29)))⟩, ⟨(some 31), none, (.e (.mks 1 1 [.nil] [(0, (1, (.t 30)))]))⟩, ⟨(some 6), none, (.f (.mv (.t 31)))⟩]) .ret) .skip)) (.seq (.ops [⟨(some 32), none, (.f (.fa 1 (.t 3)))⟩, ⟨(some 33), none, (.f (.fa 3 (.t 32)))⟩, ⟨(some 34), none, (.f (.ld1 (.t 33)))⟩, ⟨(some 35), none, (.f (.mv (.t 2)))⟩, ⟨(some 36), none, (.f (.ia 1 (.t 34) (.t 35)))⟩, ⟨(some 37), none, (.f (.ld1 (.t 36)))⟩, ⟨(some 7), none, (.f (.mv (.t 37)))⟩]) (.seq (.ops [⟨(some 38), none, (.f (.ld 9 (.t 3)))⟩, ⟨(some 39), none, (.f (.mv (.t 7)))⟩, ⟨(some 40), none, (.f (.mv (.t 1)))⟩, ⟨(some 41), none, (.e (.call false F.spec_l07Split [(.t 38), (.t 39), (.t 40)]))⟩, ⟨(some 8), none, (.f (.mv (.t 41)))⟩]) (.seq (.ops [⟨(some 42), none, (.f (.mv (.t 2)))⟩, ⟨(some 43), none, (.f (.bin .add (.t 42) (.k (.int .i64 1))))⟩, ⟨(some 9), none, (.f (.mv (.t 43)))⟩]) (.seq (.seq (.ops [⟨(some 44), none, (.f (.mv (.t 8)))⟩, ⟨(some 45), none, (.f (.len (.t 44)))⟩, ⟨(some 46), none, (.f (.bin .gtr (.t 45) (.k (.int .i64 1))))⟩, ⟨(some 47), none, (.f (.mv (.t 46)))⟩, ⟨(some 48), (some (47, true)), (.f (.fa 1 (.t 3)))⟩, ⟨(some 49), (some (47, true)), (.f (.fa 4 (.t 48)))⟩, ⟨(some 50), (some (47, true)), (.f (.ld1 (.t 49)))⟩, ⟨(some 51), none, (.f (.pick (.t 47) (.t 50) (.k (.bool false))))⟩, ⟨(some 52), none, (.f (.mv (.t 51)))⟩, ⟨(some 53), (some (52, true)), (.f (.mv (.t 7)))⟩, ⟨(some 54), (some (52, true)), (.e (.call false F.spec_IsMutual [(.t 53)]))⟩, ⟨(some 55), none, (.f (.pick (.t 52) (.t 54) (.k (.bool false))))⟩]) (.cond (.t 55) (.ops [⟨(some 9), none, (.f (.mv (.k (.int .i64 0))))⟩]) .skip)) (.seq (.ops [⟨(some 56), none, (.e (.mks 1 0 [.nil] []))⟩, ⟨(some 10), none, (.f (.mv (.t 56)))⟩]) (.seq (.seq (.ops [⟨(some 57), none, (.f (.mv (.t 8)))⟩, ⟨(some 58), none, (.f (.len (.t 57)))⟩, ⟨(some 59), none, (.f (.mv (.k (.int .i64 0))))⟩]) (.block 0 (.loop (.seq (.ops [⟨(some 60), none, (.f (.bin .lss (.t 59) (.t 58)))⟩]) (.seq (.cond (.t 60) .skip (.exit 0)) (.seq (.block 1 (.seq (.ops [⟨(some 61), none, (.f (.ia 1 (.t 57) (.t 59)))⟩, ⟨(some 62), none, (.f (.ld1 (.t 61)))⟩, ⟨(some 12), none, (.f (.mv (.t 62)))⟩]) (.ops [⟨(some 63), none, (.f (.mv (.t 10)))⟩, ⟨(some 64), none, (.f (.ld 9 (.t 3)))⟩, ⟨(some 65), none, (.f (.mv (.t 12)))⟩, ⟨(some 66), none, (.f (.mv (.t 9)))⟩, ⟨(some 67), none, (.e (.call false F.spec_l07Rank [(.t 64), (.t 65), (.t 66)]))⟩, ⟨(some 68), none, (.e (.app 1 24 (.t 63) (.t 67)))⟩, ⟨(some 10), none, (.f (.mv (.t 68)))⟩]))) (.ops [⟨(some 69), none, (.f (.bin .add (.t 59) (.k (.int .i64 1))))⟩, ⟨(some 59), none, (.f (.mv (.t 69)))⟩]))))))) (.seq (.ops [⟨(some 70), none, (.f (.mv (.t 10)))⟩, ⟨(some 6), none, (.f (.mv (.t 70)))⟩]) .ret))))))))))
theorem k_spec_l07Rank : compFn Tryz.prog [] F.spec_l07Rank = some (c_spec_l07Rank, [(.t 6)], 71) := by kernel_rfl

def c_impl_TeamOk : CC := (.seq (.ops [⟨(some 1), none, (.e (.box (.t 0)))⟩, ⟨(some 2), none, (.f (.mv (.k (.bool false))))⟩]) (.seq (.ops [⟨(some 3), none, (.f (.fa 0 (.t 1)))⟩, ⟨(some 4), none, (.f (.ld1 (.t 3)))⟩, ⟨(some 5), none, (.e (.call false F.impl_IsName [(.t 4)]))⟩, ⟨(some 6), none, (.f (.mv (.t 5)))⟩, ⟨(some 7), (some (6, true)), (.f (.fa 1 (.t 1)))⟩, ⟨(some 8), (some (6, true)), (.f (.ld1 (.t 7)))⟩, ⟨(some 9), (some (6, true)), (.e (.call false F.impl_within [(.t 8), (.k (.int .i64 0)), (.k (.int .i64 5))]))⟩, ⟨(some 10), none, (.f (.pick (.t 6) (.t 9) (.k (.bool false))))⟩, ⟨(some 11), none, (.f (.mv (.t 10)))⟩, ⟨(some 12), (some (11, true)), (.f (.fa 2 (.t 1)))⟩, ⟨(some 13), (some (11, true)), (.f (.ld1 (.t 12)))⟩, ⟨(some 14), (some (11, true)), (.e (.call false F.impl_within [(.t 13), (.k (.int .i64 1)), (.k (.int .i64 8))]))⟩, ⟨(some 15), none, (.f (.pick (.t 11) (.t 14) (.k (.bool false))))⟩, ⟨(some 2), none, (.f (.mv (.t 15)))⟩]) .ret))
theorem k_impl_TeamOk : compFn Tryz.prog [] F.impl_TeamOk = some (c_impl_TeamOk, [(.t 2)], 16) := by kernel_rfl

def c_slices_ContainsFunc_Team : CC := (.seq (.ops [⟨(some 4), none, (.f (.mv (.k (.bool false))))⟩]) (.seq (.ops [⟨(some 5), none, (.f (.mv (.t 0)))⟩, ⟨(some 6), none, (.f (.mv (.t 1)))⟩, ⟨(some 7), none, (.e (.call false F.slices_IndexFunc_Team [(.t 5), (.t 6)]))⟩, ⟨(some 8), none, (.f (.bin .geq (.t 7) (.k (.int .i64 0))))⟩, ⟨(some 4), none, (.f (.mv (.t 8)))⟩]) .ret))
theorem k_slices_ContainsFunc_Team : compFn Tryz.prog [] F.slices_ContainsFunc_Team = some (c_slices_ContainsFunc_Team, [(.t 4)], 9) := by kernel_rfl

def c_impl_FieldOk_c1 : CC := (.seq (.ops [⟨(some 2), none, (.e (.box (.t 0)))⟩, ⟨(some 3), none, (.f (.mv (.k (.bool false))))⟩]) (.seq (.ops [⟨(some 4), none, (.f (.fa 0 (.t 2)))⟩, ⟨(some 5), none, (.f (.ld1 (.t 4)))⟩, ⟨(some 6), none, (.f (.fa 0 (.t 1)))⟩, ⟨(some 7), none, (.f (.ld1 (.t 6)))⟩, ⟨(some 8), none, (.f (.bin .eql (.t 5) (.t 7)))⟩, ⟨(some 9), none, (.f (.mv (.t 8)))⟩, ⟨(some 10), (some (9, false)), (.f (.fa 2 (.t 2)))⟩, ⟨(some 11), (some (9, false)), (.f (.ld1 (.t 10)))⟩, ⟨(some 12), (some (9, false)), (.f (.fa 2 (.t 1)))⟩, ⟨(some 13), (some (9, false)), (.f (.ld1 (.t 12)))⟩, ⟨(some 14), (some (9, false)), (.f (.bin .eql (.t 11) (.t 13)))⟩, ⟨(some 15), none, (.f (.pick (.t 9) (.k (.bool true)) (.t 14)))⟩, ⟨(some 3), none, (.f (.mv (.t 15)))⟩]) .ret))
theorem k_impl_FieldOk_c1 : compFn Tryz.prog [] F.impl_FieldOk_c1 = some (c_impl_FieldOk_c1, [(.t 3)], 16) := by kernel_rfl

def c_impl_GameOk : CC := (.seq (.ops [⟨(some 3), none, (.e (.box (.t 1)))⟩, ⟨(some 4), none, (.f (.mv (.k (.bool false))))⟩]) (.seq (.ops [⟨(some 5), none, (.f (.mv (.k (.int .i64 0))))⟩]) (.seq (.seq (.ops [⟨(some 6), none, (.f (.fa 4 (.t 3)))⟩, ⟨(some 7), none, (.f (.ld1 (.t 6)))⟩, ⟨(some 8), none, (.f (.bin .eql (.t 7) (.k (.int .i64 1))))⟩]) (.cond (.t 8) (.ops [⟨(some 5), none, (.f (.mv (.k (.int .i64 99))))⟩]) .skip)) (.seq (.ops [⟨(some 9), none, (.f (.mv (.t 0)))⟩, ⟨(some 10), none, (.e (.call false F.impl_within [(.t 9), (.k (.int .i64 2)), (.k (.int .i64 8))]))⟩, ⟨(some 11), none, (.f (.mv (.t 10)))⟩, ⟨(some 12), (some (11, true)), (.f (.fa 0 (.t 3)))⟩, ⟨(some 13), (some (11, true)), (.f (.ld1 (.t 12)))⟩, ⟨(some 14), (some (11, true)), (.f (.fa 1 (.t 3)))⟩, ⟨(some 15), (some (11, true)), (.f (.ld1 (.t 14)))⟩, ⟨(some 16), (some (11, true)), (.f (.bin .neq (.t 13) (.t 15)))⟩, ⟨(some 17), none, (.f (.pick (.t 11) (.t 16) (.k (.bool false))))⟩, ⟨(some 18), none, (.f (.mv (.t 17)))⟩, ⟨(some 19), (some (18, true)), (.f (.fa 0 (.t 3)))⟩, ⟨(some 20), (some (18, true)), (.f (.ld1 (.t 19)))⟩, ⟨(some 21), (some (18, true)), (.f (.mv (.t 0)))⟩, ⟨(some 22), (some (18, true)), (.f (.bin .sub (.t 21) (.k (.int .i64 1))))⟩, ⟨(some 23), (some (18, true)), (.e (.call false F.impl_within [(.t 20), (.k (.int .i64 0)), (.t 22)]))⟩, ⟨(some 24), none, (.f (.pick (.t 18) (.t 23) (.k (.bool false))))⟩, ⟨(some 25), none, (.f (.mv (.t 24)))⟩, ⟨(some 26), (some (25, true)), (.f (.fa 1 (.t 3)))⟩, ⟨(some 27), (some (25, true)), (.f (.ld1 (.t 26)))⟩, ⟨(some 28), (some (25, true)), (.f (.mv (.t 0)))⟩, ⟨(some 29), (some (25, true)), (.f (.bin .sub (.t 28) (.k (.int .i64 1))))⟩, ⟨(some 30), (some (25, true)), (.e (.call false F.impl_within [(.t 27), (.k (.int .i64 0)), (.t 29)]))⟩, ⟨(some 31), none, (.f (.pick (.t 25) (.t 30) (.k (.bool false))))⟩, ⟨(some 32), none, (.f (.mv (.t 31)))⟩, ⟨(some 33), (some (32, true)), (.f (.fa 4 (.t 3)))⟩, ⟨(some 34), (some (32, true)), (.f (.ld1 (.t 33)))⟩, ⟨(some 35), (some (32, true)), (.e (.call false F.impl_within [(.t 34), (.k (.int .i64 0)), (.k (.int .i64 4))]))⟩, ⟨(some 36), none, (.f (.pick (.t 32) (.t 35) (.k (.bool false))))⟩, ⟨(some 37), none, (.f (.mv (.t 36)))⟩, ⟨(some 38), (some (37, true)), (.f (.fa 2 (.t 3)))⟩, ⟨(some 39), (some (37, true)), (.f (.ld1 (.t 38)))⟩, ⟨(some 40), (some (37, true)), (.f (.mv (.t 5)))⟩, ⟨(some 41), (some (37, true)), (.e (.call false F.impl_within [(.t 39), (.k (.int .i64 0)), (.t 40)]))⟩, ⟨(some 42), none, (.f (.pick (.t 37) (.t 41) (.k (.bool false))))⟩, ⟨(some 43), none, (.f (.mv (.t 42)))⟩, ⟨(some 44), (some (43, true)), (.f (.fa 3 (.t 3)))⟩, ⟨(some 45), (some (43, true)), (.f (.ld1 (.t 44)))⟩, ⟨(some 46), (some (43, true)), (.f (.mv (.t 5)))⟩, ⟨(some 47), (some (43, true)), (.e (.call false F.impl_within [(.t 45), (.k (.int .i64 0)), (.t 46)]))⟩, ⟨(some 48), none, (.f (.pick (.t 43) (.t 47) (.k (.bool false))))⟩, ⟨(some 4), none, (.f (.mv (.t 48)))⟩]) .ret))))
theorem k_impl_GameOk : compFn Tryz.prog [] F.impl_GameOk = some (c_impl_GameOk, [(.t 4)], 49) := by kernel_rfl

def c_impl_GameOf : CC := (.seq (.ops [⟨(some 4), none, (.e (.box (.t 1)))⟩, ⟨(some 5), none, (.e (.box (.t 2)))⟩, ⟨(some 6), none, (.f (.mv (.k (.int .i64 0))))⟩]) (.seq (.ops [⟨(some 7), none, (.f (.mv (.t 0)))⟩, ⟨(some 8), none, (.f (.mkfn F.impl_GameOf_c1 [(.t 4), (.t 5)]))⟩, ⟨(some 9), none, (.e (.call false F.slices_IndexFunc_Game [(.t 7), (.t 8)]))⟩, ⟨(some 6), none, (.f (.mv (.t 9)))⟩]) .ret))
theorem k_impl_GameOf : compFn Tryz.prog [] F.impl_GameOf = some (c_impl_GameOf, [(.t 6)], 10) := by kernel_rfl

def c_slices_ContainsFunc_int : CC := (.seq (.ops [⟨(some 4), none, (.f (.mv (.k (.bool false))))⟩]) (.seq (.ops [⟨(some 5), none, (.f (.mv (.t 0)))⟩, ⟨(some 6), none, (.f (.mv (.t 1)))⟩, ⟨(some 7), none, (.e (.call false F.slices_IndexFunc_int [(.t 5), (.t 6)]))⟩, ⟨(some 8), none, (.f (.bin .geq (.t 7) (.k (.int .i64 0))))⟩, ⟨(some 4), none, (.f (.mv (.t 8)))⟩]) .ret))
theorem k_slices_ContainsFunc_int : compFn Tryz.prog [] F.slices_ContainsFunc_int = some (c_slices_ContainsFunc_int, [(.t 4)], 9) := by kernel_rfl

def c_impl_arePenalties_c1 : CC := (.seq (.ops [⟨(some 2), none, (.f (.mv (.k (.bool false))))⟩]) (.seq (.ops [⟨(some 3), none, (.f (.mv (.t 0)))⟩, ⟨(some 4), none, (.e (.call false F.impl_within [(.t 3), (.k (.int .i64 0)), (.k (.int .i64 1000))]))⟩, ⟨(some 5), none, (.f (.not (.t 4)))⟩, ⟨(some 2), none, (.f (.mv (.t 5)))⟩]) .ret))
theorem k_impl_arePenalties_c1 : compFn Tryz.prog [] F.impl_arePenalties_c1 = some (c_impl_arePenalties_c1, [(.t 2)], 6) := by kernel_rfl

end Go.Proofs.YtneiicadhjdbiaaGreat.Ab

namespace Go.Proofs.YtneiicadhjdbiaaGreat.Ab
open Go

def c_impl_tableOf : CC := (.seq (.ops [⟨(some 4), none, (.e (.box (.t 0)))⟩, ⟨(some 8), none, (.f (.mv .nil))⟩]) (.seq (.ops [⟨(some 17), none, (.f (.mv (.t 1)))⟩, ⟨(some 18), none, (.e (.mk 7 56 [(.v (.int .i64 0)), (.v (.int .i64 0)), (.v (.int .i64 0)), (.v (.int .i64 0)), (.v (.int .i64 0)), (.v (.int .i64 0)), (.v (.int .i64 0))] (.t 17) (.t 17)))⟩, ⟨(some 9), none, (.f (.mv (.t 18)))⟩]) (.seq (.seq (.ops [⟨(some 19), none, (.f (.mv (.t 2)))⟩, ⟨(some 20), none, (.f (.len (.t 19)))⟩, ⟨(some 21), none, (.f (.mv (.k (.int .i64 0))))⟩]) (.block 0 (.loop (.seq (.ops [⟨(some 22), none, (.f (.bin .lss (.t 21) (.t 20)))⟩]) (.seq (.cond (.t 22) .skip (.exit 0)) (.seq (.block 1 (.seq (.ops [⟨(some 23), none, (.f (.ia 5 (.t 19) (.t 21)))⟩, ⟨(some 24), none, (.f (.ld 5 (.t 23)))⟩, ⟨(some 11), none, (.e (.new [(.v (.int .i64 0)), (.v (.int .i64 0)), (.v (.int .i64 0)), (.v (.int .i64 0)), (.v (.int .i64 0))]))⟩, ⟨none, none, (.e (.st 5 (.t 11) (.t 24)))⟩]) (.seq (.ops [⟨(some 26), none, (.f (.ld 5 (.t 11)))⟩, ⟨(some 27), none, (.e (.call false F.impl_GoalsOf [(.t 26)]))⟩, ⟨(some 25), none, (.f (.mv (.t 27)))⟩, ⟨(some 28), none, (.f (.ext (.t 25) 0))⟩, ⟨(some 29), none, (.f (.ext (.t 25) 1))⟩, ⟨(some 30), none, (.f (.ext (.t 25) 2))⟩, ⟨(some 12), none, (.f (.mv (.t 28)))⟩, ⟨(some 13), none, (.f (.mv (.t 29)))⟩, ⟨(some 14), none, (.f (.mv (.t 30)))⟩]) (.seq (.seq (.ops [⟨(some 31), none, (.f (.mv (.t 14)))⟩, ⟨(some 32), none, (.f (.not (.t 31)))⟩, ⟨(some 33), none, (.f (.mv (.t 32)))⟩, ⟨(some 34), (some (33, false)), (.f (.mv (.t 3)))⟩, ⟨(some 35), (some (33, false)), (.f (.ld 5 (.t 11)))⟩, ⟨(some 36), (some (33, false)), (.e (.callv false (.t 34) [(.t 35)]))⟩, ⟨(some 37), (some (33, false)), (.f (.not (.t 36)))⟩, ⟨(some 38), none, (.f (.pick (.t 33) (.k (.bool true)) (.t 37)))⟩]) (.cond (.t 38) (.exit 1) .skip)) (.seq (.ops [⟨(some 39), none, (.f (.mv (.t 9)))⟩, ⟨(some 40), none, (.f (.fa 0 (.t 11)))⟩, ⟨(some 41), none, (.f (.ld1 (.t 40)))⟩, ⟨(some 42), none, (.f (.ia 7 (.t 39) (.t 41)))⟩, ⟨(some 43), none, (.f (.mv (.t 9)))⟩, ⟨(some 44), none, (.f (.fa 1 (.t 11)))⟩, ⟨(some 45), none, (.f (.ld1 (.t 44)))⟩, ⟨(some 46), none, (.f (.ia 7 (.t 43) (.t 45)))⟩, ⟨(some 15), none, (.f (.mv (.t 42)))⟩, ⟨(some 16), none, (.f (.mv (.t 46)))⟩]) (.seq (.ops [⟨(some 47), none, (.f (.mv (.t 15)))⟩, ⟨(some 48), none, (.f (.chk (.t 47)))⟩, ⟨(some 49), none, (.f (.fa 0 (.t 48)))⟩, ⟨(some 50), none, (.f (.ld1 (.t 49)))⟩, ⟨(some 51), none, (.f (.bin .add (.t 50) (.k (.int .i64 1))))⟩, ⟨(some 52), none, (.f (.chk (.t 47)))⟩, ⟨(some 53), none, (.f (.fa 0 (.t 52)))⟩, ⟨none, none, (.e (.st 1 (.t 53) (.t 51)))⟩]) (.seq (.ops [⟨(some 54), none, (.f (.mv (.t 16)))⟩, ⟨(some 55), none, (.f (.chk (.t 54)))⟩, ⟨(some 56), none, (.f (.fa 0 (.t 55)))⟩, ⟨(some 57), none, (.f (.ld1 (.t 56)))⟩, ⟨(some 58), none, (.f (.bin .add (.t 57) (.k (.int .i64 1))))⟩, ⟨(some 59), none, (.f (.chk (.t 54)))⟩, ⟨(some 60), none, (.f (.fa 0 (.t 59)))⟩, ⟨none, none, (.e (.st 1 (.t 60) (.t 58)))⟩]) (.seq (.ops [⟨(some 61), none, (.f (.mv (.t 15)))⟩, ⟨(some 62), none, (.f (.chk (.t 61)))⟩, ⟨(some 63), none, (.f (.fa 4 (.t 62)))⟩, ⟨(some 64), none, (.f (.ld1 (.t 63)))⟩, ⟨(some 65), none, (.f (.mv (.t 12)))⟩, ⟨(some 66), none, (.f (.bin .add (.t 64) (.t 65)))⟩, ⟨(some 67), none, (.f (.chk (.t 61)))⟩, ⟨(some 68), none, (.f (.fa 4 (.t 67)))⟩, ⟨none, none, (.e (.st 1 (.t 68) (.t 66)))⟩]) (.seq (.ops [⟨(some 69), none, (.f (.mv (.t 15)))⟩, ⟨(some 70), none, (.f (.chk (.t 69)))⟩, ⟨(some 71), none, (.f (.fa 5 (.t 70)))⟩, ⟨(some 72), none, (.f (.ld1 (.t 71)))⟩, ⟨(some 73), none, (.f (.mv (.t 13)))⟩, ⟨(some 74), none, (.f (.bin .add (.t 72) (.t 73)))⟩, ⟨(some 75), none, (.f (.chk (.t 69)))⟩, ⟨(some 76), none, (.f (.fa 5 (.t 75)))⟩, ⟨none, none, (.e (.st 1 (.t 76) (.t 74)))⟩]) (.seq (.ops [⟨(some 77), none, (.f (.mv (.t 16)))⟩, ⟨(some 78), none, (.f (.chk (.t 77)))⟩, ⟨(some 79), none, (.f (.fa 4 (.t 78)))⟩, ⟨(some 80), none, (.f (.ld1 (.t 79)))⟩, ⟨(some 81), none, (.f (.mv (.t 13)))⟩, ⟨(some 82), none, (.f (.bin .add (.t 80) (.t 81)))⟩, ⟨(some 83), none, (.f (.chk (.t 77)))⟩, ⟨(some 84), none, (.f (.fa 4 (.t 83)))⟩, ⟨none, none, (.e (.st 1 (.t 84) (.t 82)))⟩]) (.seq (.ops [⟨(some 85), none, (.f (.mv (.t 16)))⟩, ⟨(some 86), none, (.f (.chk (.t 85)))⟩, ⟨(some 87), none, (.f (.fa 5 (.t 86)))⟩, ⟨(some 88), none, (.f (.ld1 (.t 87)))⟩, ⟨(some 89), none, (.f (.mv (.t 12)))⟩, ⟨(some 90), none, (.f (.bin .add (.t 88) (.t 89)))⟩, ⟨(some 91), none, (.f (.chk (.t 85)))⟩, ⟨(some 92), none, (.f (.fa 5 (.t 91)))⟩, ⟨none, none, (.e (.st 1 (.t 92) (.t 90)))⟩]) (.block 2 (.seq (.ops [⟨(some 126), none, (.f (.mv (.t 12)))⟩, ⟨(some 127), none, (.f (.mv (.t 13)))⟩, ⟨(some 128), none, (.f (.bin .gtr (.t 126) (.t 127)))⟩, ⟨(some 125), none, (.f (.mv (.t 128)))⟩]) (.cond (.t 125) (.seq (.ops [⟨(some 129), none, (.f (.mv (.t 15)))⟩, ⟨(some 130), none, (.f (.chk (.t 129)))⟩, ⟨(some 131), none, (.f (.fa 1 (.t 130)))⟩, ⟨(some 132), none, (.f (.ld1 (.t 131)))⟩, ⟨(some 133), none, (.f (.bin .add (.t 132) (.k (.int .i64 1))))⟩, ⟨(some 134), none, (.f (.chk (.t 129)))⟩, ⟨(some 135), none, (.f (.fa 1 (.t 134)))⟩, ⟨none, none, (.e (.st 1 (.t 135) (.t 133)))⟩]) (.seq (.ops [⟨(some 136), none, (.f (.mv (.t 16)))⟩, ⟨(some 137), none, (.f (.chk (.t 136)))⟩, ⟨(some 138), none, (.f (.fa 3 (.t 137)))⟩, ⟨(some 139), none, (.f (.ld1 (.t 138)))⟩, ⟨(some 140), none, (.f (.bin .add (.t 139) (.k (.int .i64 1))))⟩, ⟨(some 141), none, (.f (.chk (.t 136)))⟩, ⟨(some 142), none, (.f (.fa 3 (.t 141)))⟩, ⟨none, none, (.e (.st 1 (.t 142) (.t 140)))⟩]) (.seq (.ops [⟨(some 143), none, (.f (.mv (.t 15)))⟩, ⟨(some 144), none, (.f (.chk (.t 143)))⟩, ⟨(some 145), none, (.f (.fa 6 (.t 144)))⟩, ⟨(some 146), none, (.f (.ld1 (.t 145)))⟩, ⟨(some 147), none, (.f (.fa 0 (.t 4)))⟩, ⟨(some 148), none, (.f (.ld1 (.t 147)))⟩, ⟨(some 149), none, (.f (.bin .add (.t 146) (.t 148)))⟩, ⟨(some 150), none, (.f (.chk (.t 143)))⟩, ⟨(some 151), none, (.f (.fa 6 (.t 150)))⟩, ⟨none, none, (.e (.st 1 (.t 151) (.t 149)))⟩]) (.ops [⟨(some 152), none, (.f (.mv (.t 16)))⟩, ⟨(some 153), none, (.f (.chk (.t 152)))⟩, ⟨(some 154), none, (.f (.fa 6 (.t 153)))⟩, ⟨(some 155), none, (.f (.ld1 (.t 154)))⟩, ⟨(some 156), none, (.f (.fa 2 (.t 4)))⟩, ⟨(some 157), none, (.f (.ld1 (.t 156)))⟩, ⟨(some 158), none, (.f (.bin .add (.t 155) (.t 157)))⟩, ⟨(some 159), none, (.f (.chk (.t 152)))⟩, ⟨(some 160), none, (.f (.fa 6 (.t 159)))⟩, ⟨none, none, (.e (.st 1 (.t 160) (.t 158)))⟩])))) (.seq (.ops [⟨(some 162), none, (.f (.mv (.t 12)))⟩, ⟨(some 163), none, (.f (.mv (.t 13)))⟩, ⟨(some 164), none, (.f (.bin .lss (.t 162) (.t 163)))⟩, ⟨(some 161), none, (.f (.mv (.t 164)))⟩]) (.cond (.t 161) (.seq (.ops [⟨(some 165), none, (.f (.mv (.t 16)))⟩, ⟨(some 166), none, (.f (.chk (.t 165)))⟩, ⟨(some 167), none, (.f (.fa 1 (.t 166)))⟩, ⟨(some 168), none, (.f (.ld1 (.t 167)))⟩, ⟨(some 169), none, (.f (.bin .add (.t 168) (.k (.int .i64 1))))⟩, ⟨(some 170), none, (.f (.chk (.t 165)))⟩, ⟨(some 171), none, (.f (.fa 1 (.t 170)))⟩, ⟨none, none, (.e (.st 1 (.t 171) (.t 169)))⟩]) (.seq (.ops [⟨(some 172), none, (.f (.mv (.t 15)))⟩, ⟨(some 173), none, (.f (.chk (.t 172)))⟩, ⟨(some 174), none, (.f (.fa 3 (.t 173)))⟩, ⟨(some 175), none, (.f (.ld1 (.t 174)))⟩, ⟨(some 176), none, (.f (.bin .add (.t 175) (.k (.int .i64 1))))⟩, ⟨(some 177), none, (.f (.chk (.t 172)))⟩, ⟨(some 178), none, (.f (.fa 3 (.t 177)))⟩, ⟨none, none, (.e (.st 1 (.t 178) (.t 176)))⟩]) (.seq (.ops [⟨(some 179), none, (.f (.mv (.t 16)))⟩, ⟨(some 180), none, (.f (.chk (.t 179)))⟩, ⟨(some 181), none, (.f (.fa 6 (.t 180)))⟩, ⟨(some 182), none, (.f (.ld1 (.t 181)))⟩, ⟨(some 183), none, (.f (.fa 0 (.t 4)))⟩, ⟨(some 184), none, (.f (.ld1 (.t 183)))⟩, ⟨(some 185), none, (.f (.bin .add (.t 182) (.t 184)))⟩, ⟨(some 186), none, (.f (.chk (.t 179)))⟩, ⟨(some 187), none, (.f (.fa 6 (.t 186)))⟩, ⟨none, none, (.e (.st 1 (.t 187) (.t 185)))⟩]) (.ops [⟨(some 188), none, (.f (.mv (.t 15)))⟩, ⟨(some 189), none, (.f (.chk (.t 188)))⟩, ⟨(some 190), none, (.f (.fa 6 (.t 189)))⟩, ⟨(some 191), none, (.f (.ld1 (.t 190)))⟩, ⟨(some 192), none, (.f (.fa 2 (.t 4)))⟩, ⟨(some 193), none, (.f (.ld1 (.t 192)))⟩, ⟨(some 194), none, (.f (.bin .add (.t 191) (.t 193)))⟩, ⟨(some 195), none, (.f (.chk (.t 188)))⟩, ⟨(some 196), none, (.f (.fa 6 (.t 195)))⟩, ⟨none, none, (.e (.st 1 (.t 196) (.t 194)))⟩])))) (.seq (.ops [⟨(some 93), none, (.f (.mv (.t 15)))⟩, ⟨(some 94), none, (.f (.chk (.t 93)))⟩, ⟨(some 95), none, (.f (.fa 2 (.t 94)))⟩, ⟨(some 96), none, (.f (.ld1 (.t 95)))⟩, ⟨(some 97), none, (.f (.bin .add (.t 96) (.k (.int .i64 1))))⟩, ⟨(some 98), none, (.f (.chk (.t 93)))⟩, ⟨(some 99), none, (.f (.fa 2 (.t 98)))⟩, ⟨none, none, (.e (.st 1 (.t 99) (.t 97)))⟩]) (.seq (.ops [⟨(some 100), none, (.f (.mv (.t 16)))⟩, ⟨(some 101), none, (.f (.chk (.t 100)))⟩, ⟨(some 102), none, (.f (.fa 2 (.t 101)))⟩, ⟨(some 103), none, (.f (.ld1 (.t 102)))⟩, ⟨(some 104), none, (.f (.bin .add (.t 103) (.k (.int .i64 1))))⟩, ⟨(some 105), none, (.f (.chk (.t 100)))⟩, ⟨(some 106), none, (.f (.fa 2 (.t 105)))⟩, ⟨none, none, (.e (.st 1 (.t 106) (.t 104)))⟩]) (.seq (.ops [⟨(some 107), none, (.f (.mv (.t 15)))⟩, ⟨(some 108), none, (.f (.chk (.t 107)))⟩, ⟨(some 109), none, (.f (.fa 6 (.t 108)))⟩, ⟨(some 110), none, (.f (.ld1 (.t 109)))⟩, ⟨(some 111), none, (.f (.fa 1 (.t 4)))⟩, ⟨(some 112), none, (.f (.ld1 (.t 111)))⟩, ⟨(some 113), none, (.f (.bin .add (.t 110) (.t 112)))⟩, ⟨(some 114), none, (.f (.chk (.t 107)))⟩, ⟨(some 115), none, (.f (.fa 6 (.t 114)))⟩, ⟨none, none, (.e (.st 1 (.t 115) (.t 113)))⟩]) (.ops [⟨(some 116), none, (.f (.mv (.t 16)))⟩, ⟨(some 117), none, (.f (.chk (.t 116)))⟩, ⟨(some 118), none, (.f (.fa 6 (.t 117)))⟩, ⟨(some 119), none, (.f (.ld1 (.t 118)))⟩, ⟨(some 120), none, (.f (.fa 1 (.t 4)))⟩, ⟨(some 121), none, (.f (.ld1 (.t 120)))⟩, ⟨(some 122), none, (.f (.bin .add (.t 119) (.t 121)))⟩, ⟨(some 123), none, (.f (.chk (.t 116)))⟩, ⟨(some 124), none, (.f (.fa 6 (.t 123)))⟩, ⟨none, none, (.e (.st 1 (.t 124) (.t 122)))⟩])))))))))))))))))))) (.ops [⟨(some 197), none, (.f (.bin .add (.t 21) (.k (.int .i64 1))))⟩, ⟨(some 21), none, (.f (.mv (.t 197)))⟩]))))))) (.seq (.ops [⟨(some 198), none, (.f (.mv (.t 9)))⟩, ⟨(some 8), none, (.f (.mv (.t 198)))⟩]) .ret))))
theorem k_impl_tableOf : compFn Tryz.prog [] F.impl_tableOf = some (c_impl_tableOf, [(.t 8)], 199) := by kernel_rfl

def c_impl_rankerOf_c1 : CC := (.seq (.ops [⟨(some 1), none, (.e (.box (.t 0)))⟩, ⟨(some 2), none, (.f (.mv (.k (.bool false))))⟩]) (.seq (.ops [⟨(some 2), none, (.f (.mv (.k (.bool true))))⟩]) .ret))
theorem k_impl_rankerOf_c1 : compFn Tryz.prog [] F.impl_rankerOf_c1 = some (c_impl_rankerOf_c1, [(.t 2)], 3) := by kernel_rfl

def c_impl_ranker_split : CC := (.seq (.ops [⟨(some 3), none, (.e (.box (.t 0)))⟩, ⟨(some 6), none, (.f (.mv .nil))⟩]) (.seq (.ops [⟨(some 12), none, (.f (.ld 10 (.t 3)))⟩, ⟨(some 13), none, (.f (.mv (.t 1)))⟩, ⟨(some 14), none, (.f (.mv (.t 2)))⟩, ⟨(some 15), none, (.e (.call false F.impl_ranker_values [(.t 12), (.t 13), (.t 14)]))⟩, ⟨(some 16), none, (.e (.mks 1 0 [.nil] []))⟩, ⟨(some 7), none, (.f (.mv (.t 15)))⟩, ⟨(some 8), none, (.f (.mv (.t 16)))⟩]) (.seq (.seq (.ops [⟨(some 17), none, (.f (.mv (.t 2)))⟩, ⟨(some 18), none, (.f (.len (.t 17)))⟩, ⟨(some 19), none, (.f (.mv (.k (.int .i64 0))))⟩]) (.block 0 (.loop (.seq (.ops [⟨(some 20), none, (.f (.bin .lss (.t 19) (.t 18)))⟩]) (.seq (.cond (.t 20) .skip (.exit 0)) (.seq (.block 1 (.seq (.ops [⟨(some 21), none, (.f (.ia 1 (.t 17) (.t 19)))⟩, ⟨(some 22), none, (.f (.ld1 (.t 21)))⟩, ⟨(some 10), none, (.f (.mv (.t 22)))⟩]) (.seq (.ops [⟨(some 11), none, (.f (.mv (.k (.int .i64 0))))⟩]) (.seq (.block 2 (.loop (.seq (.seq (.ops [⟨(some 23), none, (.f (.mv (.t 11)))⟩, ⟨(some 24), none, (.f (.mv (.t 8)))⟩, ⟨(some 25), none, (.f (.len (.t 24)))⟩, ⟨(some 26), none, (.f (.bin .lss (.t 23) (.t 25)))⟩, ⟨(some 27), none, (.f (.mv (.t 26)))⟩, ⟨(some 28), (some (27, true)), (.f (.mv (.t 7)))⟩, ⟨(some 29), (some (27, true)), (.f (.mv (.t 8)))⟩, ⟨(some 30), (some (27, true)), (.f (.mv (.t 11)))⟩, ⟨(some 31), (some (27, true)), (.f (.ia 1 (.t 29) (.t 30)))⟩, ⟨(some 32), (some (27, true)), (.f (.ld1 (.t 31)))⟩, ⟨(some 33), (some (27, true)), (.f (.ia 1 (.t 32) (.k (.int .i64 0))))⟩, ⟨(some 34), (some (27, true)), (.f (.ld1 (.t 33)))⟩, ⟨(some 35), (some (27, true)), (.f (.ia 1 (.t 28) (.t 34)))⟩, ⟨(some 36), (some (27, true)), (.f (.ld1 (.t 35)))⟩, ⟨(some 37), (some (27, true)), (.f (.mv (.t 7)))⟩, ⟨(some 38), (some (27, true)), (.f (.mv (.t 10)))⟩, ⟨(some 39), (some (27, true)), (.f (.ia 1 (.t 37) (.t 38)))⟩, ⟨(some 40), (some (27, true)), (.f (.ld1 (.t 39)))⟩, ⟨(some 41), (some (27, true)), (.f (.bin .gtr (.t 36) (.t 40)))⟩, ⟨(some 42), none, (.f (.pick (.t 27) (.t 41) (.k (.bool false))))⟩]) (.cond (.t 42) .skip (.exit 2))) (.block 3 (.ops [⟨(some 43), none, (.f (.mv (.t 11)))⟩, ⟨(some 44), none, (.f (.bin .add (.t 43) (.k (.int .i64 1))))⟩, ⟨(some 11), none, (.f (.mv (.t 44)))⟩]))))) (.seq (.ops [⟨(some 45), none, (.f (.mv (.t 11)))⟩, ⟨(some 46), none, (.f (.mv (.t 8)))⟩, ⟨(some 47), none, (.f (.len (.t 46)))⟩, ⟨(some 48), none, (.f (.bin .lss (.t 45) (.t 47)))⟩, ⟨(some 49), none, (.f (.mv (.t 48)))⟩, ⟨(some 50), (some (49, true)), (.f (.mv (.t 7)))⟩, ⟨(some 51), (some (49, true)), (.f (.mv (.t 8)))⟩, ⟨(some 52), (some (49, true)), (.f (.mv (.t 11)))⟩, ⟨(some 53), (some (49, true)), (.f (.ia 1 (.t 51) (.t 52)))⟩, ⟨(some 54), (some (49, true)), (.f (.ld1 (.t 53)))⟩, ⟨(some 55), (some (49, true)), (.f (.ia 1 (.t 54) (.k (.int .i64 0))))⟩, ⟨(some 56), (some (49, true)), (.f (.ld1 (.t 55)))⟩, ⟨(some 57), (some (49, true)), (.f (.ia 1 (.t 50) (.t 56)))⟩, ⟨(some 58), (some (49, true)), (.f (.ld1 (.t 57)))⟩, ⟨(some 59), (some (49, true)), (.f (.mv (.t 7)))⟩, ⟨(some 60), (some (49, true)), (.f (.mv (.t 10)))⟩, ⟨(some 61), (some (49, true)), (.f (.ia 1 (.t 59) (.t 60)))⟩, ⟨(some 62), (some (49, true)), (.f (.ld1 (.t 61)))⟩, ⟨(some 63), (some (49, true)), (.f (.bin .eql (.t 58) (.t 62)))⟩, ⟨(some 64), none, (.f (.pick (.t 49) (.t 63) (.k (.bool false))))⟩]) (.cond (.t 64) (.ops [⟨(some 65), none, (.f (.mv (.t 8)))⟩, ⟨(some 66), none, (.f (.mv (.t 11)))⟩, ⟨(some 67), none, (.f (.mv (.t 8)))⟩, ⟨(some 68), none, (.f (.mv (.t 11)))⟩, ⟨(some 69), none, (.f (.ia 1 (.t 67) (.t 68)))⟩, ⟨(some 70), none, (.f (.ld1 (.t 69)))⟩, ⟨(some 71), none, (.f (.mv (.t 10)))⟩, ⟨(some 72), none, (.e (.mks 1 1 [(.v (.int .i64 0))] [(0, (1, (.t 71)))]))⟩, ⟨(some 73), none, (.e (.app 1 8 (.t 70) (.t 72)))⟩, ⟨(some 74), none, (.f (.ia 1 (.t 65) (.t 66)))⟩, ⟨none, none, (.e (.st 1 (.t 74) (.t 73)))⟩]) (.ops [⟨(some 75), none, (.f (.mv (.t 8)))⟩, ⟨(some 76), none, (.f (.mv (.t 11)))⟩, ⟨(some 77), none, (.f (.mv (.t 10)))⟩, ⟨(some 78), none, (.e (.mks 1 1 [(.v (.int .i64 0))] [(0, (1, (.t 77)))]))⟩, ⟨(some 79), none, (.e (.mks 1 1 [.nil] [(0, (1, (.t 78)))]))⟩, ⟨(some 80), none, (.e (.call false F.slices_Insert_int [(.t 75), (.t 76), (.t 79)]))⟩, ⟨(some 8), none, (.f (.mv (.t 80)))⟩]))))))) (.ops [⟨(some 81), none, (.f (.bin .add (.t 19) (.k (.int .i64 1))))⟩, ⟨(some 19), none, (.f (.mv (.t 81)))⟩]))))))) (.seq (.ops [⟨(some 82), none, (.f (.mv (.t 8)))⟩, ⟨(some 6), none, (.f (.mv (.t 82)))⟩]) .ret))))
theorem k_impl_ranker_split : compFn Tryz.prog [] F.impl_ranker_split = some (c_impl_ranker_split, [(.t 6)], 83) := by kernel_rfl

def c_impl_ranker_next : CC := (.seq (.ops [⟨(some 3), none, (.e (.box (.t 0)))⟩, ⟨(some 6), none, (.f (.mv (.k (.int .i64 0))))⟩]) (.seq (.seq (.ops [⟨(some 7), none, (.f (.mv (.t 2)))⟩, ⟨(some 8), none, (.f (.len (.t 7)))⟩, ⟨(some 9), none, (.f (.bin .gtr (.t 8) (.k (.int .i64 1))))⟩, ⟨(some 10), none, (.f (.mv (.t 9)))⟩, ⟨(some 11), (some (10, true)), (.f (.fa 0 (.t 3)))⟩, ⟨(some 12), (some (10, true)), (.f (.fa 1 (.t 11)))⟩, ⟨(some 13), (some (10, true)), (.f (.fa 4 (.t 12)))⟩, ⟨(some 14), (some (10, true)), (.f (.ld1 (.t 13)))⟩, ⟨(some 15), none, (.f (.pick (.t 10) (.t 14) (.k (.bool false))))⟩, ⟨(some 16), none, (.f (.mv (.t 15)))⟩, ⟨(some 17), (some (16, true)), (.f (.fa 0 (.t 3)))⟩, ⟨(some 18), (some (16, true)), (.f (.fa 1 (.t 17)))⟩, ⟨(some 19), (some (16, true)), (.f (.fa 3 (.t 18)))⟩, ⟨(some 20), (some (16, true)), (.f (.ld1 (.t 19)))⟩, ⟨(some 21), (some (16, true)), (.f (.mv (.t 1)))⟩, ⟨(some 22), (some (16, true)), (.f (.ia 1 (.t 20) (.t 21)))⟩, ⟨(some 23), (some (16, true)), (.f (.ld1 (.t 22)))⟩, ⟨(some 24), (some (16, true)), (.e (.call false F.impl_IsMutual [(.t 23)]))⟩, ⟨(some 25), none, (.f (.pick (.t 16) (.t 24) (.k (.bool false))))⟩]) (.cond (.t 25) (.seq (.ops [⟨(some 6), none, (.f (.mv (.k (.int .i64 0))))⟩]) .ret) .skip)) (.seq (.ops [⟨(some 26), none, (.f (.mv (.t 1)))⟩, ⟨(some 27), none, (.f (.bin .add (.t 26) (.k (.int .i64 1))))⟩, ⟨(some 6), none, (.f (.mv (.t 27)))⟩]) .ret)))
theorem k_impl_ranker_next : compFn Tryz.prog [] F.impl_ranker_next = some (c_impl_ranker_next, [(.t 6)], 28) := by kernel_rfl

def c_spec_IsName : CC := (.seq (.ops [⟨(some 2), none, (.f (.mv (.k (.bool false))))⟩]) (.seq (.seq (.ops [⟨(some 3), none, (.f (.mv (.k (.int .i64 0))))⟩]) (.block 0 (.loop (.seq (.seq (.ops [⟨(some 5), none, (.f (.mv (.t 3)))⟩, ⟨(some 6), none, (.f (.mv (.t 0)))⟩, ⟨(some 7), none, (.f (.lenS (.t 6)))⟩, ⟨(some 8), none, (.f (.bin .lss (.t 5) (.t 7)))⟩]) (.cond (.t 8) .skip (.exit 0))) (.seq (.block 1 (.seq (.ops [⟨(some 11), none, (.f (.mv (.t 0)))⟩, ⟨(some 12), none, (.f (.mv (.t 3)))⟩, ⟨(some 13), none, (.f (.is (.t 11) (.t 12)))⟩, ⟨(some 14), none, (.f (.bin .geq (.t 13) (.k (.int .u8 97))))⟩, ⟨(some 15), none, (.f (.mv (.t 14)))⟩, ⟨(some 16), (some (15, true)), (.f (.mv (.t 0)))⟩, ⟨(some 17), (some (15, true)), (.f (.mv (.t 3)))⟩, ⟨(some 18), (some (15, true)), (.f (.is (.t 16) (.t 17)))⟩, ⟨(some 19), (some (15, true)), (.f (.bin .leq (.t 18) (.k (.int .u8 122))))⟩, ⟨(some 20), none, (.f (.pick (.t 15) (.t 19) (.k (.bool false))))⟩, ⟨(some 4), none, (.f (.mv (.t 20)))⟩]) (.seq (.ops [⟨(some 21), none, (.f (.mv (.t 4)))⟩, ⟨(some 22), none, (.f (.not (.t 21)))⟩, ⟨(some 23), none, (.f (.mv (.t 22)))⟩, ⟨(some 24), (some (23, true)), (.f (.mv (.t 3)))⟩, ⟨(some 25), (some (23, true)), (.f (.bin .eql (.t 24) (.k (.int .i64 0))))⟩, ⟨(some 26), (some (23, true)), (.f (.mv (.t 25)))⟩, ⟨(some 27), (some (26, false)), (.f (.mv (.t 0)))⟩, ⟨(some 28), (some (26, false)), (.f (.mv (.t 3)))⟩, ⟨(some 29), (some (26, false)), (.f (.is (.t 27) (.t 28)))⟩, ⟨(some 30), (some (26, false)), (.f (.bin .lss (.t 29) (.k (.int .u8 48))))⟩, ⟨(some 31), (some (23, true)), (.f (.pick (.t 26) (.k (.bool true)) (.t 30)))⟩, ⟨(some 32), (some (23, true)), (.f (.mv (.t 31)))⟩, ⟨(some 33), (some (32, false)), (.f (.mv (.t 0)))⟩, ⟨(some 34), (some (32, false)), (.f (.mv (.t 3)))⟩, ⟨(some 35), (some (32, false)), (.f (.is (.t 33) (.t 34)))⟩, ⟨(some 36), (some (32, false)), (.f (.bin .gtr (.t 35) (.k (.int .u8 57))))⟩, ⟨(some 37), (some (23, true)), (.f (.pick (.t 32) (.k (.bool true)) (.t 36)))⟩, ⟨(some 38), none, (.f (.pick (.t 23) (.t 37) (.k (.bool false))))⟩]) (.cond (.t 38) (.seq (.ops [⟨(some 2), none, (.f (.mv (.k (.bool false))))⟩]) .ret) .skip)))) (.ops [⟨(some 9), none, (.f (.mv (.t 3)))⟩, ⟨(some 10), none, (.f (.bin .add (.t 9) (.k (.int .i64 1))))⟩, ⟨(some 3), none, (.f (.mv (.t 10)))⟩])))))) (.seq (.ops [⟨(some 39), none, (.f (.mv (.t 0)))⟩, ⟨(some 40), none, (.f (.lenS (.t 39)))⟩, ⟨(some 41), none, (.e (.call false F.spec_l01In [(.t 40), (.k (.int .i64 1)), (.k (.int .i64 8))]))⟩, ⟨(some 2), none, (.f (.mv (.t 41)))⟩]) .ret)))
theorem k_spec_IsName : compFn Tryz.prog [] F.spec_IsName = some (c_spec_IsName, [(.t 2)], 42) := by kernel_rfl

def c_spec_l07Split : CC := (.seq (.ops [⟨(some 3), none, (.e (.box (.t 0)))⟩, ⟨(some 6), none, (.f (.mv .nil))⟩]) (.seq (.ops [⟨(some 15), none, (.f (.ld 9 (.t 3)))⟩, ⟨(some 16), none, (.f (.mv (.t 1)))⟩, ⟨(some 17), none, (.f (.mv (.t 2)))⟩, ⟨(some 18), none, (.e (.call false F.spec_l07Values [(.t 15), (.t 16), (.t 17)]))⟩, ⟨(some 7), none, (.f (.mv (.t 18)))⟩]) (.seq (.ops [⟨(some 19), none, (.e (.mks 1 0 [.nil] []))⟩, ⟨(some 8), none, (.f (.mv (.t 19)))⟩]) (.seq (.ops [⟨(some 20), none, (.e (.mks 1 0 [(.v (.int .i64 0))] []))⟩, ⟨(some 9), none, (.f (.mv (.t 20)))⟩]) (.seq (.seq (.ops [⟨(some 21), none, (.f (.mv (.t 2)))⟩, ⟨(some 22), none, (.f (.len (.t 21)))⟩, ⟨(some 23), none, (.f (.mv (.k (.int .i64 0))))⟩]) (.block 0 (.loop (.seq (.ops [⟨(some 24), none, (.f (.bin .lss (.t 23) (.t 22)))⟩]) (.seq (.cond (.t 24) .skip (.exit 0)) (.seq (.block 1 (.seq (.ops [⟨(some 25), none, (.f (.ia 1 (.t 21) (.t 23)))⟩, ⟨(some 26), none, (.f (.ld1 (.t 25)))⟩, ⟨(some 11), none, (.f (.mv (.t 26)))⟩]) (.seq (.ops [⟨(some 27), none, (.f (.mv (.t 7)))⟩, ⟨(some 28), none, (.f (.mv (.t 11)))⟩, ⟨(some 29), none, (.f (.ia 1 (.t 27) (.t 28)))⟩, ⟨(some 30), none, (.f (.ld1 (.t 29)))⟩, ⟨(some 12), none, (.f (.mv (.t 30)))⟩]) (.seq (.ops [⟨(some 13), none, (.f (.mv (.k (.int .i64 0))))⟩]) (.seq (.block 2 (.loop (.seq (.seq (.ops [⟨(some 31), none, (.f (.mv (.t 13)))⟩, ⟨(some 32), none, (.f (.mv (.t 9)))⟩, ⟨(some 33), none, (.f (.len (.t 32)))⟩, ⟨(some 34), none, (.f (.bin .lss (.t 31) (.t 33)))⟩, ⟨(some 35), none, (.f (.mv (.t 34)))⟩, ⟨(some 36), (some (35, true)), (.f (.mv (.t 9)))⟩, ⟨(some 37), (some (35, true)), (.f (.mv (.t 13)))⟩, ⟨(some 38), (some (35, true)), (.f (.ia 1 (.t 36) (.t 37)))⟩, ⟨(some 39), (some (35, true)), (.f (.ld1 (.t 38)))⟩, ⟨(some 40), (some (35, true)), (.f (.mv (.t 12)))⟩, ⟨(some 41), (some (35, true)), (.f (.bin .gtr (.t 39) (.t 40)))⟩, ⟨(some 42), none, (.f (.pick (.t 35) (.t 41) (.k (.bool false))))⟩]) (.cond (.t 42) .skip (.exit 2))) (.block 3 (.ops [⟨(some 43), none, (.f (.mv (.t 13)))⟩, ⟨(some 44), none, (.f (.bin .add (.t 43) (.k (.int .i64 1))))⟩, ⟨(some 13), none, (.f (.mv (.t 44)))⟩]))))) (.seq (.seq (.ops [⟨(some 45), none, (.f (.mv (.t 13)))⟩, ⟨(some 46), none, (.f (.mv (.t 9)))⟩, ⟨(some 47), none, (.f (.len (.t 46)))⟩, ⟨(some 48), none, (.f (.bin .lss (.t 45) (.t 47)))⟩, ⟨(some 49), none, (.f (.mv (.t 48)))⟩, ⟨(some 50), (some (49, true)), (.f (.mv (.t 9)))⟩, ⟨(some 51), (some (49, true)), (.f (.mv (.t 13)))⟩, ⟨(some 52), (some (49, true)), (.f (.ia 1 (.t 50) (.t 51)))⟩, ⟨(some 53), (some (49, true)), (.f (.ld1 (.t 52)))⟩, ⟨(some 54), (some (49, true)), (.f (.mv (.t 12)))⟩, ⟨(some 55), (some (49, true)), (.f (.bin .eql (.t 53) (.t 54)))⟩, ⟨(some 56), none, (.f (.pick (.t 49) (.t 55) (.k (.bool false))))⟩]) (.cond (.t 56) (.seq (.ops [⟨(some 57), none, (.f (.mv (.t 8)))⟩, ⟨(some 58), none, (.f (.mv (.t 13)))⟩, ⟨(some 59), none, (.f (.mv (.t 8)))⟩, ⟨(some 60), none, (.f (.mv (.t 13)))⟩, ⟨(some 61), none, (.f (.ia 1 (.t 59) (.t 60)))⟩, ⟨(some 62), none, (.f (.ld1 (.t 61)))⟩, ⟨(some 63), none, (.f (.mv (.t 11)))⟩, ⟨(some 64), none, (.e (.mks 1 1 [(.v (.int .i64 0))] [(0, (1, (.t 63)))]))⟩, ⟨(some 65), none, (.e (.app 1 8 (.t 62) (.t 64)))⟩, ⟨(some 66), none, (.f (.ia 1 (.t 57) (.t 58)))⟩, ⟨none, none, (.e (.st 1 (.t 66) (.t 65)))⟩]) (.exit 1)) .skip)) (.seq (.ops [⟨(some 67), none, (.f (.mv (.t 9)))⟩, ⟨(some 68), none, (.e (.mks 1 1 [(.v (.int .i64 0))] [(0, (1, (.k (.int .i64 0))))]))⟩, ⟨(some 69), none, (.e (.app 1 8 (.t 67) (.t 68)))⟩, ⟨(some 9), none, (.f (.mv (.t 69)))⟩]) (.seq (.ops [⟨(some 70), none, (.f (.mv (.t 8)))⟩, ⟨(some 71), none, (.e (.mks 1 1 [.nil] [(0, (1, .nil))]))⟩, ⟨(some 72), none, (.e (.app 1 24 (.t 70) (.t 71)))⟩, ⟨(some 8), none, (.f (.mv (.t 72)))⟩]) (.seq (.seq (.ops [⟨(some 73), none, (.f (.mv (.t 9)))⟩, ⟨(some 74), none, (.f (.len (.t 73)))⟩, ⟨(some 75), none, (.f (.bin .sub (.t 74) (.k (.int .i64 1))))⟩, ⟨(some 14), none, (.f (.mv (.t 75)))⟩]) (.block 4 (.loop (.seq (.seq (.ops [⟨(some 76), none, (.f (.mv (.t 14)))⟩, ⟨(some 77), none, (.f (.mv (.t 13)))⟩, ⟨(some 78), none, (.f (.bin .gtr (.t 76) (.t 77)))⟩]) (.cond (.t 78) .skip (.exit 4))) (.seq (.block 5 (.seq (.ops [⟨(some 81), none, (.f (.mv (.t 9)))⟩, ⟨(some 82), none, (.f (.mv (.t 14)))⟩, ⟨(some 83), none, (.f (.mv (.t 9)))⟩, ⟨(some 84), none, (.f (.mv (.t 14)))⟩, ⟨(some 85), none, (.f (.bin .sub (.t 84) (.k (.int .i64 1))))⟩, ⟨(some 86), none, (.f (.ia 1 (.t 83) (.t 85)))⟩, ⟨(some 87), none, (.f (.ld1 (.t 86)))⟩, ⟨(some 88), none, (.f (.ia 1 (.t 81) (.t 82)))⟩, ⟨none, none, (.e (.st 1 (.t 88) (.t 87)))⟩]) (.ops [⟨(some 89), none, (.f (.mv (.t 8)))⟩, ⟨(some 90), none, (.f (.mv (.t 14)))⟩, ⟨(some 91), none, (.f (.mv (.t 8)))⟩, ⟨(some 92), none, (.f (.mv (.t 14)))⟩, ⟨(some 93), none, (.f (.bin .sub (.t 92) (.k (.int .i64 1))))⟩, ⟨(some 94), none, (.f (.ia 1 (.t 91) (.t 93)))⟩, ⟨(some 95), none, (.f (.ld1 (.t 94)))⟩, ⟨(some 96), none, (.f (.ia 1 (.t 89) (.t 90)))⟩, ⟨none, none, (.e (.st 1 (.t 96) (.t 95)))⟩]))) (.ops [⟨(some 79), none, (.f (.mv (.t 14)))⟩, ⟨(some 80), none, (.f (.bin .sub (.t 79) (.k (.int .i64 1))))⟩, ⟨(some 14), none, (.f (.mv (.t 80)))⟩])))))) (.seq (.ops [⟨(some 97), none, (.f (.mv (.t 9)))⟩, ⟨(some 98), none, (.f (.mv (.t 13)))⟩, ⟨(some 99), none, (.f (.mv (.t 12)))⟩, ⟨(some 100), none, (.f (.ia 1 (.t 97) (.t 98)))⟩, ⟨none, none, (.e (.st 1 (.t 100) (.t 99)))⟩]) (.ops [⟨(some 101), none, (.f (.mv (.t 8)))⟩, ⟨(some 102), none, (.f (.mv (.t 13)))⟩, ⟨(some 103), none, (.f (.mv (.t 11)))⟩, ⟨(some 104), none, (.e (.mks 1 1 [(.v (.int .i64 0))] [(0, (1, (.t 103)))]))⟩, ⟨(some 105), none, (.f (.ia 1 (.t 101) (.t 102)))⟩, ⟨none, none, (.e (.st 1 (.t 105) (.t 104)))⟩]))))))))))) (.ops [⟨(some 106), none, (.f (.bin .add (.t 23) (.k (.int .i64 1))))⟩, ⟨(some 23), none, (.f (.mv (.t 106)))⟩]))))))) (.seq (.ops [⟨(some 107), none, (.f (.mv (.t 8)))⟩, ⟨(some 6), none, (.f (.mv (.t 107)))⟩]) .ret))))))
theorem k_spec_l07Split : compFn Tryz.prog [] F.spec_l07Split = some (c_spec_l07Split, [(.t 6)], 108) := by kernel_rfl

def c_spec_IsMutual : CC := (.seq (.ops [⟨(some 2), none, (.f (.mv (.k (.bool false))))⟩]) (.seq (.ops [⟨(some 3), none, (.f (.mv (.t 0)))⟩, ⟨(some 4), none, (.f (.bin .eql (.t 3) (.k (.int .i64 5))))⟩, ⟨(some 5), none, (.f (.mv (.t 4)))⟩, ⟨(some 6), (some (5, false)), (.f (.mv (.t 0)))⟩, ⟨(some 7), (some (5, false)), (.f (.bin .eql (.t 6) (.k (.int .i64 6))))⟩, ⟨(some 8), none, (.f (.pick (.t 5) (.k (.bool true)) (.t 7)))⟩, ⟨(some 2), none, (.f (.mv (.t 8)))⟩]) .ret))
theorem k_spec_IsMutual : compFn Tryz.prog [] F.spec_IsMutual = some (c_spec_IsMutual, [(.t 2)], 9) := by kernel_rfl

def c_impl_IsName : CC := (.seq (.ops [⟨(some 2), none, (.f (.mv (.k (.bool false))))⟩]) (.seq (.seq (.ops [⟨(some 5), none, (.f (.mv (.t 0)))⟩, ⟨(some 6), none, (.f (.lenS (.t 5)))⟩, ⟨(some 7), none, (.f (.mv (.k (.int .i64 0))))⟩]) (.block 0 (.loop (.seq (.ops [⟨(some 8), none, (.f (.bin .lss (.t 7) (.t 6)))⟩]) (.seq (.cond (.t 8) .skip (.exit 0)) (.seq (.block 1 (.seq (.ops [⟨(some 9), none, (.f (.mv (.t 7)))⟩, ⟨(some 3), none, (.f (.mv (.t 9)))⟩]) (.seq (.ops [⟨(some 10), none, (.f (.mv (.t 0)))⟩, ⟨(some 11), none, (.f (.mv (.t 3)))⟩, ⟨(some 12), none, (.f (.is (.t 10) (.t 11)))⟩, ⟨(some 13), none, (.f (.bin .geq (.t 12) (.k (.int .u8 97))))⟩, ⟨(some 14), none, (.f (.mv (.t 13)))⟩, ⟨(some 15), (some (14, true)), (.f (.mv (.t 0)))⟩, ⟨(some 16), (some (14, true)), (.f (.mv (.t 3)))⟩, ⟨(some 17), (some (14, true)), (.f (.is (.t 15) (.t 16)))⟩, ⟨(some 18), (some (14, true)), (.f (.bin .leq (.t 17) (.k (.int .u8 122))))⟩, ⟨(some 19), none, (.f (.pick (.t 14) (.t 18) (.k (.bool false))))⟩, ⟨(some 4), none, (.f (.mv (.t 19)))⟩]) (.seq (.ops [⟨(some 20), none, (.f (.mv (.t 4)))⟩, ⟨(some 21), none, (.f (.not (.t 20)))⟩, ⟨(some 22), none, (.f (.mv (.t 21)))⟩, ⟨(some 23), (some (22, true)), (.f (.mv (.t 3)))⟩, ⟨(some 24), (some (22, true)), (.f (.bin .eql (.t 23) (.k (.int .i64 0))))⟩, ⟨(some 25), (some (22, true)), (.f (.mv (.t 24)))⟩, ⟨(some 26), (some (25, false)), (.f (.mv (.t 0)))⟩, ⟨(some 27), (some (25, false)), (.f (.mv (.t 3)))⟩, ⟨(some 28), (some (25, false)), (.f (.is (.t 26) (.t 27)))⟩, ⟨(some 29), (some (25, false)), (.f (.bin .lss (.t 28) (.k (.int .u8 48))))⟩, ⟨(some 30), (some (22, true)), (.f (.pick (.t 25) (.k (.bool true)) (.t 29)))⟩, ⟨(some 31), (some (22, true)), (.f (.mv (.t 30)))⟩, ⟨(some 32), (some (31, false)), (.f (.mv (.t 0)))⟩, ⟨(some 33), (some (31, false)), (.f (.mv (.t 3)))⟩, ⟨(some 34), (some (31, false)), (.f (.is (.t 32) (.t 33)))⟩, ⟨(some 35), (some (31, false)), (.f (.bin .gtr (.t 34) (.k (.int .u8 57))))⟩, ⟨(some 36), (some (22, true)), (.f (.pick (.t 31) (.k (.bool true)) (.t 35)))⟩, ⟨(some 37), none, (.f (.pick (.t 22) (.t 36) (.k (.bool false))))⟩]) (.cond (.t 37) (.seq (.ops [⟨(some 2), none, (.f (.mv (.k (.bool false))))⟩]) .ret) .skip))))) (.ops [⟨(some 38), none, (.f (.bin .add (.t 7) (.k (.int .i64 1))))⟩, ⟨(some 7), none, (.f (.mv (.t 38)))⟩]))))))) (.seq (.ops [⟨(some 39), none, (.f (.mv (.t 0)))⟩, ⟨(some 40), none, (.f (.lenS (.t 39)))⟩, ⟨(some 41), none, (.e (.call false F.impl_within [(.t 40), (.k (.int .i64 1)), (.k (.int .i64 8))]))⟩, ⟨(some 2), none, (.f (.mv (.t 41)))⟩]) .ret)))
theorem k_impl_IsName : compFn Tryz.prog [] F.impl_IsName = some (c_impl_IsName, [(.t 2)], 42) := by kernel_rfl

def c_slices_IndexFunc_Team : CC := (.seq (.ops [⟨(some 4), none, (.f (.mv (.k (.int .i64 0))))⟩]) (.seq (.seq (.ops [⟨(some 6), none, (.f (.mv (.t 0)))⟩, ⟨(some 7), none, (.f (.len (.t 6)))⟩, ⟨(some 8), none, (.f (.mv (.k (.int .i64 0))))⟩]) (.block 0 (.loop (.seq (.ops [⟨(some 9), none, (.f (.bin .lss (.t 8) (.t 7)))⟩]) (.seq (.cond (.t 9) .skip (.exit 0)) (.seq (.block 1 (.seq (.ops [⟨(some 10), none, (.f (.mv (.t 8)))⟩, ⟨(some 5), none, (.f (.mv (.t 10)))⟩]) (.seq (.ops [⟨(some 11), none, (.f (.mv (.t 1)))⟩, ⟨(some 12), none, (.f (.mv (.t 0)))⟩, ⟨(some 13), none, (.f (.mv (.t 5)))⟩, ⟨(some 14), none, (.f (.ia 3 (.t 12) (.t 13)))⟩, ⟨(some 15), none, (.f (.ld 3 (.t 14)))⟩, ⟨(some 16), none, (.e (.callv false (.t 11) [(.t 15)]))⟩]) (.cond (.t 16) (.seq (.ops [⟨(some 17), none, (.f (.mv (.t 5)))⟩, ⟨(some 4), none, (.f (.mv (.t 17)))⟩]) .ret) .skip)))) (.ops [⟨(some 18), none, (.f (.bin .add (.t 8) (.k (.int .i64 1))))⟩, ⟨(some 8), none, (.f (.mv (.t 18)))⟩]))))))) (.seq (.ops [⟨(some 4), none, (.f (.mv (.k (.int .i64 (-1)))))⟩]) .ret)))
theorem k_slices_IndexFunc_Team : compFn Tryz.prog [] F.slices_IndexFunc_Team = some (c_slices_IndexFunc_Team, [(.t 4)], 19) := by kernel_rfl

def c_slices_IndexFunc_Game : CC := (.seq (.ops [⟨(some 4), none, (.f (.mv (.k (.int .i64 0))))⟩]) (.seq (.seq (.ops [⟨(some 6), none, (.f (.mv (.t 0)))⟩, ⟨(some 7), none, (.f (.len (.t 6)))⟩, ⟨(some 8), none, (.f (.mv (.k (.int .i64 0))))⟩]) (.block 0 (.loop (.seq (.ops [⟨(some 9), none, (.f (.bin .lss (.t 8) (.t 7)))⟩]) (.seq (.cond (.t 9) .skip (.exit 0)) (.seq (.block 1 (.seq (.ops [⟨(some 10), none, (.f (.mv (.t 8)))⟩, ⟨(some 5), none, (.f (.mv (.t 10)))⟩]) (.seq (.ops [⟨(some 11), none, (.f (.mv (.t 1)))⟩, ⟨(some 12), none, (.f (.mv (.t 0)))⟩, ⟨(some 13), none, (.f (.mv (.t 5)))⟩, ⟨(some 14), none, (.f (.ia 5 (.t 12) (.t 13)))⟩, ⟨(some 15), none, (.f (.ld 5 (.t 14)))⟩, ⟨(some 16), none, (.e (.callv false (.t 11) [(.t 15)]))⟩]) (.cond (.t 16) (.seq (.ops [⟨(some 17), none, (.f (.mv (.t 5)))⟩, ⟨(some 4), none, (.f (.mv (.t 17)))⟩]) .ret) .skip)))) (.ops [⟨(some 18), none, (.f (.bin .add (.t 8) (.k (.int .i64 1))))⟩, ⟨(some 8), none, (.f (.mv (.t 18)))⟩]))))))) (.seq (.ops [⟨(some 4), none, (.f (.mv (.k (.int .i64 (-1)))))⟩]) .ret)))
theorem k_slices_IndexFunc_Game : compFn Tryz.prog [] F.slices_IndexFunc_Game = some (c_slices_IndexFunc_Game, [(.t 4)], 19) := by kernel_rfl

def c_impl_GameOf_c1 : CC := (.seq (.ops [⟨(some 3), none, (.e (.box (.t 0)))⟩, ⟨(some 4), none, (.f (.mv (.k (.bool false))))⟩]) (.seq (.ops [⟨(some 5), none, (.f (.fa 0 (.t 3)))⟩, ⟨(some 6), none, (.f (.ld1 (.t 5)))⟩, ⟨(some 7), none, (.f (.ld1 (.t 1)))⟩, ⟨(some 8), none, (.f (.bin .eql (.t 6) (.t 7)))⟩, ⟨(some 9), none, (.f (.mv (.t 8)))⟩, ⟨(some 10), (some (9, true)), (.f (.fa 1 (.t 3)))⟩, ⟨(some 11), (some (9, true)), (.f (.ld1 (.t 10)))⟩, ⟨(some 12), (some (9, true)), (.f (.ld1 (.t 2)))⟩, ⟨(some 13), (some (9, true)), (.f (.bin .eql (.t 11) (.t 12)))⟩, ⟨(some 14), none, (.f (.pick (.t 9) (.t 13) (.k (.bool false))))⟩, ⟨(some 4), none, (.f (.mv (.t 14)))⟩]) .ret))
theorem k_impl_GameOf_c1 : compFn Tryz.prog [] F.impl_GameOf_c1 = some (c_impl_GameOf_c1, [(.t 4)], 15) := by kernel_rfl

def c_impl_GoalsOf : CC := (.seq (.ops [⟨(some 1), none, (.e (.box (.t 0)))⟩, ⟨(some 2), none, (.f (.mv (.k (.int .i64 0))))⟩, ⟨(some 3), none, (.f (.mv (.k (.int .i64 0))))⟩, ⟨(some 4), none, (.f (.mv (.k (.bool false))))⟩]) (.seq (.seq (.ops [⟨(some 5), none, (.f (.fa 4 (.t 1)))⟩, ⟨(some 6), none, (.f (.ld1 (.t 5)))⟩]) (.block 0 (.seq (.ops [⟨(some 8), none, (.f (.bin .eql (.t 6) (.k (.int .i64 1))))⟩, ⟨(some 7), none, (.f (.mv (.t 8)))⟩]) (.cond (.t 7) (.seq (.ops [⟨(some 9), none, (.f (.fa 2 (.t 1)))⟩, ⟨(some 10), none, (.f (.ld1 (.t 9)))⟩, ⟨(some 11), none, (.f (.fa 3 (.t 1)))⟩, ⟨(some 12), none, (.f (.ld1 (.t 11)))⟩, ⟨(some 2), none, (.f (.mv (.t 10)))⟩, ⟨(some 3), none, (.f (.mv (.t 12)))⟩, ⟨(some 4), none, (.f (.mv (.k (.bool true))))⟩]) .ret) (.seq (.ops [⟨(some 14), none, (.f (.bin .eql (.t 6) (.k (.int .i64 2))))⟩, ⟨(some 13), none, (.f (.mv (.t 14)))⟩]) (.cond (.t 13) (.seq (.ops [⟨(some 2), none, (.f (.mv (.k (.int .i64 3))))⟩, ⟨(some 3), none, (.f (.mv (.k (.int .i64 0))))⟩, ⟨(some 4), none, (.f (.mv (.k (.bool true))))⟩]) .ret) (.seq (.ops [⟨(some 16), none, (.f (.bin .eql (.t 6) (.k (.int .i64 3))))⟩, ⟨(some 15), none, (.f (.mv (.t 16)))⟩]) (.cond (.t 15) (.seq (.ops [⟨(some 2), none, (.f (.mv (.k (.int .i64 0))))⟩, ⟨(some 3), none, (.f (.mv (.k (.int .i64 3))))⟩, ⟨(some 4), none, (.f (.mv (.k (.bool true))))⟩]) .ret) .skip)))))))) (.seq (.ops [⟨(some 2), none, (.f (.mv (.k (.int .i64 0))))⟩, ⟨(some 3), none, (.f (.mv (.k (.int .i64 0))))⟩, ⟨(some 4), none, (.f (.mv (.k (.bool false))))⟩]) .ret)))
theorem k_impl_GoalsOf : compFn Tryz.prog [] F.impl_GoalsOf = some (c_impl_GoalsOf, [(.t 2), (.t 3), (.t 4)], 17) := by kernel_rfl

def c_impl_ranker_values : CC := (.seq (.ops [⟨(some 3), none, (.e (.box (.t 0)))⟩, ⟨(some 6), none, (.f (.mv .nil))⟩]) (.seq (.ops [⟨(some 10), none, (.f (.fa 0 (.t 3)))⟩, ⟨(some 11), none, (.f (.fa 0 (.t 10)))⟩, ⟨(some 12), none, (.f (.ld1 (.t 11)))⟩, ⟨(some 13), none, (.f (.len (.t 12)))⟩, ⟨(some 15), none, (.f (.fa 9 (.t 3)))⟩, ⟨(some 16), none, (.f (.ld1 (.t 15)))⟩, ⟨(some 14), none, (.e (.mk 1 8 [(.v (.int .i64 0))] (.t 13) (.t 13)))⟩, ⟨(some 7), none, (.f (.mv (.t 14)))⟩, ⟨(some 8), none, (.f (.mv (.t 16)))⟩]) (.seq (.seq (.ops [⟨(some 17), none, (.f (.mv (.t 1)))⟩, ⟨(some 18), none, (.e (.call false F.impl_IsMutual [(.t 17)]))⟩]) (.cond (.t 18) (.ops [⟨(some 19), none, (.f (.fa 0 (.t 3)))⟩, ⟨(some 20), none, (.f (.fa 1 (.t 19)))⟩, ⟨(some 21), none, (.f (.ld 5 (.t 20)))⟩, ⟨(some 22), none, (.f (.fa 0 (.t 3)))⟩, ⟨(some 23), none, (.f (.fa 0 (.t 22)))⟩, ⟨(some 24), none, (.f (.ld1 (.t 23)))⟩, ⟨(some 25), none, (.f (.len (.t 24)))⟩, ⟨(some 26), none, (.f (.fa 0 (.t 3)))⟩, ⟨(some 27), none, (.f (.fa 6 (.t 26)))⟩, ⟨(some 28), none, (.f (.ld1 (.t 27)))⟩, ⟨(some 29), none, (.f (.mv (.t 2)))⟩, ⟨(some 30), none, (.e (.call true F.impl_among [(.t 29)]))⟩, ⟨(some 31), none, (.e (.call false F.impl_tableOf [(.t 21), (.t 25), (.t 28), (.t 30)]))⟩, ⟨(some 8), none, (.f (.mv (.t 31)))⟩]) .skip)) (.seq (.seq (.ops [⟨(some 32), none, (.f (.mv (.t 7)))⟩, ⟨(some 33), none, (.f (.len (.t 32)))⟩, ⟨(some 34), none, (.f (.mv (.k (.int .i64 0))))⟩]) (.block 0 (.loop (.seq (.ops [⟨(some 35), none, (.f (.bin .lss (.t 34) (.t 33)))⟩]) (.seq (.cond (.t 35) .skip (.exit 0)) (.seq (.block 1 (.seq (.ops [⟨(some 36), none, (.f (.mv (.t 34)))⟩, ⟨(some 9), none, (.f (.mv (.t 36)))⟩]) (.seq (.ops [⟨(some 37), none, (.f (.mv (.t 1)))⟩]) (.block 2 (.seq (.ops [⟨(some 39), none, (.f (.bin .eql (.t 37) (.k (.int .i64 1))))⟩, ⟨(some 38), none, (.f (.mv (.t 39)))⟩]) (.cond (.t 38) (.ops [⟨(some 40), none, (.f (.mv (.t 7)))⟩, ⟨(some 41), none, (.f (.mv (.t 9)))⟩, ⟨(some 42), none, (.f (.mv (.t 8)))⟩, ⟨(some 43), none, (.f (.mv (.t 9)))⟩, ⟨(some 44), none, (.f (.ia 7 (.t 42) (.t 43)))⟩, ⟨(some 45), none, (.f (.fa 6 (.t 44)))⟩, ⟨(some 46), none, (.f (.ld1 (.t 45)))⟩, ⟨(some 47), none, (.f (.fa 0 (.t 3)))⟩, ⟨(some 48), none, (.f (.fa 8 (.t 47)))⟩, ⟨(some 49), none, (.f (.ld1 (.t 48)))⟩, ⟨(some 50), none, (.f (.mv (.t 9)))⟩, ⟨(some 51), none, (.f (.ia 1 (.t 49) (.t 50)))⟩, ⟨(some 52), none, (.f (.ld1 (.t 51)))⟩, ⟨(some 53), none, (.f (.bin .sub (.t 46) (.t 52)))⟩, ⟨(some 54), none, (.f (.ia 1 (.t 40) (.t 41)))⟩, ⟨none, none, (.e (.st 1 (.t 54) (.t 53)))⟩]) (.seq (.seq (.ops [⟨(some 56), none, (.f (.bin .eql (.t 37) (.k (.int .i64 2))))⟩, ⟨(some 55), none, (.f (.mv (.t 56)))⟩]) (.cond (.t 55) .skip (.ops [⟨(some 57), none, (.f (.bin .eql (.t 37) (.k (.int .i64 6))))⟩, ⟨(some 55), none, (.f (.mv (.t 57)))⟩]))) (.cond (.t 55) (.ops [⟨(some 58), none, (.f (.mv (.t 7)))⟩, ⟨(some 59), none, (.f (.mv (.t 9)))⟩, ⟨(some 60), none, (.f (.mv (.t 8)))⟩, ⟨(some 61), none, (.f (.mv (.t 9)))⟩, ⟨(some 62), none, (.f (.ia 7 (.t 60) (.t 61)))⟩, ⟨(some 63), none, (.f (.ld 7 (.t 62)))⟩, ⟨(some 64), none, (.e (.call false F.impl_DifferenceOf [(.t 63)]))⟩, ⟨(some 65), none, (.f (.ia 1 (.t 58) (.t 59)))⟩, ⟨none, none, (.e (.st 1 (.t 65) (.t 64)))⟩]) (.seq (.ops [⟨(some 67), none, (.f (.bin .eql (.t 37) (.k (.int .i64 3))))⟩, ⟨(some 66), none, (.f (.mv (.t 67)))⟩]) (.cond (.t 66) (.ops [⟨(some 68), none, (.f (.mv (.t 7)))⟩, ⟨(some 69), none, (.f (.mv (.t 9)))⟩, ⟨(some 70), none, (.f (.mv (.t 8)))⟩, ⟨(some 71), none, (.f (.mv (.t 9)))⟩, ⟨(some 72), none, (.f (.ia 7 (.t 70) (.t 71)))⟩, ⟨(some 73), none, (.f (.fa 4 (.t 72)))⟩, ⟨(some 74), none, (.f (.ld1 (.t 73)))⟩, ⟨(some 75), none, (.f (.ia 1 (.t 68) (.t 69)))⟩, ⟨none, none, (.e (.st 1 (.t 75) (.t 74)))⟩]) (.seq (.ops [⟨(some 77), none, (.f (.bin .eql (.t 37) (.k (.int .i64 4))))⟩, ⟨(some 76), none, (.f (.mv (.t 77)))⟩]) (.cond (.t 76) (.ops [⟨(some 78), none, (.f (.mv (.t 7)))⟩, ⟨(some 79), none, (.f (.mv (.t 9)))⟩, ⟨(some 80), none, (.f (.mv (.t 8)))⟩, ⟨(some 81), none, (.f (.mv (.t 9)))⟩, ⟨(some 82), none, (.f (.ia 7 (.t 80) (.t 81)))⟩, ⟨(some 83), none, (.f (.fa 1 (.t 82)))⟩, ⟨(some 84), none, (.f (.ld1 (.t 83)))⟩, ⟨(some 85), none, (.f (.ia 1 (.t 78) (.t 79)))⟩, ⟨none, none, (.e (.st 1 (.t 85) (.t 84)))⟩]) (.seq (.ops [⟨(some 87), none, (.f (.bin .eql (.t 37) (.k (.int .i64 5))))⟩, ⟨(some 86), none, (.f (.mv (.t 87)))⟩]) (.cond (.t 86) (.ops [⟨(some 88), none, (.f (.mv (.t 7)))⟩, ⟨(some 89), none, (.f (.mv (.t 9)))⟩, ⟨(some 90), none, (.f (.mv (.t 8)))⟩, ⟨(some 91), none, (.f (.mv (.t 9)))⟩, ⟨(some 92), none, (.f (.ia 7 (.t 90) (.t 91)))⟩, ⟨(some 93), none, (.f (.fa 6 (.t 92)))⟩, ⟨(some 94), none, (.f (.ld1 (.t 93)))⟩, ⟨(some 95), none, (.f (.ia 1 (.t 88) (.t 89)))⟩, ⟨none, none, (.e (.st 1 (.t 95) (.t 94)))⟩]) (.seq (.ops [⟨(some 97), none, (.f (.bin .eql (.t 37) (.k (.int .i64 7))))⟩, ⟨(some 96), none, (.f (.mv (.t 97)))⟩]) (.cond (.t 96) (.ops [⟨(some 98), none, (.f (.mv (.t 7)))⟩, ⟨(some 99), none, (.f (.mv (.t 9)))⟩, ⟨(some 100), none, (.f (.fa 0 (.t 3)))⟩, ⟨(some 101), none, (.f (.fa 7 (.t 100)))⟩, ⟨(some 102), none, (.f (.ld1 (.t 101)))⟩, ⟨(some 103), none, (.f (.mv (.t 9)))⟩, ⟨(some 104), none, (.f (.ia 1 (.t 102) (.t 103)))⟩, ⟨(some 105), none, (.f (.ld1 (.t 104)))⟩, ⟨(some 106), none, (.f (.neg (.t 105)))⟩, ⟨(some 107), none, (.f (.ia 1 (.t 98) (.t 99)))⟩, ⟨none, none, (.e (.st 1 (.t 107) (.t 106)))⟩]) (.seq (.ops [⟨(some 109), none, (.f (.bin .eql (.t 37) (.k (.int .i64 8))))⟩, ⟨(some 108), none, (.f (.mv (.t 109)))⟩]) (.cond (.t 108) (.ops [⟨(some 110), none, (.f (.mv (.t 7)))⟩, ⟨(some 111), none, (.f (.mv (.t 9)))⟩, ⟨(some 112), none, (.f (.fa 0 (.t 3)))⟩, ⟨(some 113), none, (.f (.fa 0 (.t 112)))⟩, ⟨(some 114), none, (.f (.ld1 (.t 113)))⟩, ⟨(some 115), none, (.f (.mv (.t 9)))⟩, ⟨(some 116), none, (.f (.ia 3 (.t 114) (.t 115)))⟩, ⟨(some 117), none, (.f (.fa 2 (.t 116)))⟩, ⟨(some 118), none, (.f (.ld1 (.t 117)))⟩, ⟨(some 119), none, (.f (.neg (.t 118)))⟩, ⟨(some 120), none, (.f (.ia 1 (.t 110) (.t 111)))⟩, ⟨none, none, (.e (.st 1 (.t 120) (.t 119)))⟩]) .skip)))))))))))))))))) (.ops [⟨(some 121), none, (.f (.bin .add (.t 34) (.k (.int .i64 1))))⟩, ⟨(some 34), none, (.f (.mv (.t 121)))⟩]))))))) (.seq (.ops [⟨(some 122), none, (.f (.mv (.t 7)))⟩, ⟨(some 6), none, (.f (.mv (.t 122)))⟩]) .ret)))))
theorem k_impl_ranker_values : compFn Tryz.prog [] F.impl_ranker_values = some (c_impl_ranker_values, [(.t 6)], 123) := by kernel_rfl

def c_slices_Insert_int : CC := (.seq (.ops [⟨(some 6), none, (.f (.mv .nil))⟩]) (.seq (.ops [⟨(some 10), none, (.f (.mv (.t 0)))⟩, ⟨(some 11), none, (.f (.mv (.t 1)))⟩, ⟨(some 12), none, (.f (.sls 1 (.t 10) (some (.t 11)) none))⟩]) (.seq (.ops [⟨(some 13), none, (.f (.mv (.t 2)))⟩, ⟨(some 14), none, (.f (.len (.t 13)))⟩, ⟨(some 7), none, (.f (.mv (.t 14)))⟩]) (.seq (.seq (.ops [⟨(some 15), none, (.f (.mv (.t 7)))⟩, ⟨(some 16), none, (.f (.bin .eql (.t 15) (.k (.int .i64 0))))⟩]) (.cond (.t 16) (.seq (.ops [⟨(some 17), none, (.f (.mv (.t 0)))⟩, ⟨(some 6), none, (.f (.mv (.t 17)))⟩]) .ret) .skip)) (.seq (.ops [⟨(some 18), none, (.f (.mv (.t 0)))⟩, ⟨(some 19), none, (.f (.len (.t 18)))⟩, ⟨(some 8), none, (.f (.mv (.t 19)))⟩]) (.seq (.seq (.ops [⟨(some 20), none, (.f (.mv (.t 1)))⟩, ⟨(some 21), none, (.f (.mv (.t 8)))⟩, ⟨(some 22), none, (.f (.bin .eql (.t 20) (.t 21)))⟩]) (.cond (.t 22) (.seq (.ops [⟨(some 23), none, (.f (.mv (.t 0)))⟩, ⟨(some 24), none, (.f (.mv (.t 2)))⟩, ⟨(some 25), none, (.e (.app 1 24 (.t 23) (.t 24)))⟩, ⟨(some 6), none, (.f (.mv (.t 25)))⟩]) .ret) .skip)) (.seq (.seq .bad (.cond (.t 31) (.seq .bad (.seq .bad (.seq .bad (.seq (.ops [⟨(some 55), none, (.f (.mv (.t 9)))⟩, ⟨(some 6), none, (.f (.mv (.t 55)))⟩]) .ret)))) .skip)) (.seq (.ops [⟨(some 56), none, (.f (.mv (.t 0)))⟩, ⟨(some 57), none, (.f (.mv (.t 8)))⟩, ⟨(some 58), none, (.f (.mv (.t 7)))⟩, ⟨(some 59), none, (.f (.bin .add (.t 57) (.t 58)))⟩, ⟨(some 60), none, (.f (.sls 1 (.t 56) none (some (.t 59))))⟩, ⟨(some 0), none, (.f (.mv (.t 60)))⟩]) (.seq (.seq .bad (.cond (.t 68) (.seq .bad (.seq .bad (.seq (.ops [⟨(some 83), none, (.f (.mv (.t 0)))⟩, ⟨(some 6), none, (.f (.mv (.t 83)))⟩]) .ret))) .skip)) (.seq .bad (.seq (.ops [⟨(some 89), none, (.f (.mv (.t 0)))⟩, ⟨(some 90), none, (.f (.mv (.t 1)))⟩, ⟨(some 91), none, (.f (.sls 1 (.t 89) (some (.t 90)) none))⟩, ⟨(some 92), none, (.f (.mv (.t 7)))⟩, ⟨(some 93), none, (.e (.call false F.slices_rotateRight_int [(.t 91), (.t 92)]))⟩]) (.seq (.ops [⟨(some 94), none, (.f (.mv (.t 0)))⟩, ⟨(some 6), none, (.f (.mv (.t 94)))⟩]) .ret))))))))))))
theorem k_slices_Insert_int : compFn Tryz.prog [] F.slices_Insert_int = some (c_slices_Insert_int, [(.t 6)], 95) := by kernel_rfl

def c_impl_IsMutual : CC := (.seq (.ops [⟨(some 2), none, (.f (.mv (.k (.bool false))))⟩]) (.seq (.ops [⟨(some 3), none, (.f (.mv (.t 0)))⟩, ⟨(some 4), none, (.f (.bin .eql (.t 3) (.k (.int .i64 5))))⟩, ⟨(some 5), none, (.f (.mv (.t 4)))⟩, ⟨(some 6), (some (5, false)), (.f (.mv (.t 0)))⟩, ⟨(some 7), (some (5, false)), (.f (.bin .eql (.t 6) (.k (.int .i64 6))))⟩, ⟨(some 8), none, (.f (.pick (.t 5) (.k (.bool true)) (.t 7)))⟩, ⟨(some 2), none, (.f (.mv (.t 8)))⟩]) .ret))
theorem k_impl_IsMutual : compFn Tryz.prog [] F.impl_IsMutual = some (c_impl_IsMutual, [(.t 2)], 9) := by kernel_rfl

def c_spec_l07Values : CC := (.seq (.ops [⟨(some 3), none, (.e (.box (.t 0)))⟩, ⟨(some 6), none, (.f (.mv .nil))⟩]) (.seq (.ops [⟨(some 12), none, (.f (.fa 1 (.t 3)))⟩, ⟨(some 13), none, (.f (.ld 5 (.t 12)))⟩, ⟨(some 14), none, (.f (.fa 0 (.t 3)))⟩, ⟨(some 15), none, (.f (.ld1 (.t 14)))⟩, ⟨(some 16), none, (.f (.len (.t 15)))⟩, ⟨(some 17), none, (.f (.fa 6 (.t 3)))⟩, ⟨(some 18), none, (.f (.ld1 (.t 17)))⟩, ⟨(some 19), none, (.f (.mv (.t 2)))⟩, ⟨(some 20), none, (.f (.mv (.t 1)))⟩, ⟨(some 21), none, (.e (.call true F.spec_IsMutual [(.t 20)]))⟩, ⟨(some 22), none, (.f (.not (.t 21)))⟩, ⟨(some 23), none, (.e (.call false F.spec_l06Among [(.t 13), (.t 16), (.t 18), (.t 19), (.t 22)]))⟩, ⟨(some 7), none, (.f (.mv (.t 23)))⟩]) (.seq (.ops [⟨(some 24), none, (.e (.mks 1 0 [(.v (.int .i64 0))] []))⟩, ⟨(some 8), none, (.f (.mv (.t 24)))⟩]) (.seq (.seq (.ops [⟨(some 25), none, (.f (.mv (.t 7)))⟩, ⟨(some 26), none, (.f (.len (.t 25)))⟩, ⟨(some 27), none, (.f (.mv (.k (.int .i64 0))))⟩]) (.block 0 (.loop (.seq (.ops [⟨(some 28), none, (.f (.bin .lss (.t 27) (.t 26)))⟩]) (.seq (.cond (.t 28) .skip (.exit 0)) (.seq (.block 1 (.seq (.ops [⟨(some 29), none, (.f (.mv (.t 27)))⟩, ⟨(some 30), none, (.f (.ia 7 (.t 25) (.t 27)))⟩, ⟨(some 31), none, (.f (.ld 7 (.t 30)))⟩, ⟨(some 10), none, (.e (.new [(.v (.int .i64 0)), (.v (.int .i64 0)), (.v (.int .i64 0)), (.v (.int .i64 0)), (.v (.int .i64 0)), (.v (.int .i64 0)), (.v (.int .i64 0))]))⟩, ⟨(some 9), none, (.f (.mv (.t 29)))⟩, ⟨none, none, (.e (.st 7 (.t 10) (.t 31)))⟩]) (.seq (.ops [⟨(some 11), none, (.f (.mv (.k (.int .i64 0))))⟩]) (.seq (.seq (.ops [⟨(some 32), none, (.f (.mv (.t 1)))⟩]) (.block 2 (.seq (.ops [⟨(some 34), none, (.f (.bin .eql (.t 32) (.k (.int .i64 1))))⟩, ⟨(some 33), none, (.f (.mv (.t 34)))⟩]) (.cond (.t 33) (.ops [⟨(some 35), none, (.f (.fa 6 (.t 10)))⟩, ⟨(some 36), none, (.f (.ld1 (.t 35)))⟩, ⟨(some 37), none, (.f (.fa 8 (.t 3)))⟩, ⟨(some 38), none, (.f (.ld1 (.t 37)))⟩, ⟨(some 39), none, (.f (.mv (.t 9)))⟩, ⟨(some 40), none, (.f (.ia 1 (.t 38) (.t 39)))⟩, ⟨(some 41), none, (.f (.ld1 (.t 40)))⟩, ⟨(some 42), none, (.f (.bin .sub (.t 36) (.t 41)))⟩, ⟨(some 11), none, (.f (.mv (.t 42)))⟩]) (.seq (.ops [⟨(some 44), none, (.f (.bin .eql (.t 32) (.k (.int .i64 5))))⟩, ⟨(some 43), none, (.f (.mv (.t 44)))⟩]) (.cond (.t 43) (.ops [⟨(some 45), none, (.f (.fa 6 (.t 10)))⟩, ⟨(some 46), none, (.f (.ld1 (.t 45)))⟩, ⟨(some 11), none, (.f (.mv (.t 46)))⟩]) (.seq (.seq (.ops [⟨(some 48), none, (.f (.bin .eql (.t 32) (.k (.int .i64 2))))⟩, ⟨(some 47), none, (.f (.mv (.t 48)))⟩]) (.cond (.t 47) .skip (.ops [⟨(some 49), none, (.f (.bin .eql (.t 32) (.k (.int .i64 6))))⟩, ⟨(some 47), none, (.f (.mv (.t 49)))⟩]))) (.cond (.t 47) (.ops [⟨(some 50), none, (.f (.ld 7 (.t 10)))⟩, ⟨(some 51), none, (.e (.call false F.spec_DifferenceOf [(.t 50)]))⟩, ⟨(some 11), none, (.f (.mv (.t 51)))⟩]) (.seq (.ops [⟨(some 53), none, (.f (.bin .eql (.t 32) (.k (.int .i64 3))))⟩, ⟨(some 52), none, (.f (.mv (.t 53)))⟩]) (.cond (.t 52) (.ops [⟨(some 54), none, (.f (.fa 4 (.t 10)))⟩, ⟨(some 55), none, (.f (.ld1 (.t 54)))⟩, ⟨(some 11), none, (.f (.mv (.t 55)))⟩]) (.seq (.ops [⟨(some 57), none, (.f (.bin .eql (.t 32) (.k (.int .i64 4))))⟩, ⟨(some 56), none, (.f (.mv (.t 57)))⟩]) (.cond (.t 56) (.ops [⟨(some 58), none, (.f (.fa 1 (.t 10)))⟩, ⟨(some 59), none, (.f (.ld1 (.t 58)))⟩, ⟨(some 11), none, (.f (.mv (.t 59)))⟩]) (.seq (.ops [⟨(some 61), none, (.f (.bin .eql (.t 32) (.k (.int .i64 7))))⟩, ⟨(some 60), none, (.f (.mv (.t 61)))⟩]) (.cond (.t 60) (.ops [⟨(some 62), none, (.f (.fa 7 (.t 3)))⟩, ⟨(some 63), none, (.f (.ld1 (.t 62)))⟩, ⟨(some 64), none, (.f (.mv (.t 9)))⟩, ⟨(some 65), none, (.f (.ia 1 (.t 63) (.t 64)))⟩, ⟨(some 66), none, (.f (.ld1 (.t 65)))⟩, ⟨(some 67), none, (.f (.neg (.t 66)))⟩, ⟨(some 11), none, (.f (.mv (.t 67)))⟩]) (.seq (.ops [⟨(some 69), none, (.f (.bin .eql (.t 32) (.k (.int .i64 8))))⟩, ⟨(some 68), none, (.f (.mv (.t 69)))⟩]) (.cond (.t 68) (.ops [⟨(some 70), none, (.f (.fa 0 (.t 3)))⟩, ⟨(some 71), none, (.f (.ld1 (.t 70)))⟩, ⟨(some 72), none, (.f (.mv (.t 9)))⟩, ⟨(some 73), none, (.f (.ia 3 (.t 71) (.t 72)))⟩, ⟨(some 74), none, (.f (.fa 2 (.t 73)))⟩, ⟨(some 75), none, (.f (.ld1 (.t 74)))⟩, ⟨(some 76), none, (.f (.neg (.t 75)))⟩, ⟨(some 11), none, (.f (.mv (.t 76)))⟩]) .skip)))))))))))))))) (.ops [⟨(some 77), none, (.f (.mv (.t 8)))⟩, ⟨(some 78), none, (.f (.mv (.t 11)))⟩, ⟨(some 79), none, (.e (.mks 1 1 [(.v (.int .i64 0))] [(0, (1, (.t 78)))]))⟩, ⟨(some 80), none, (.e (.app 1 8 (.t 77) (.t 79)))⟩, ⟨(some 8), none, (.f (.mv (.t 80)))⟩]))))) (.ops [⟨(some 81), none, (.f (.bin .add (.t 27) (.k (.int .i64 1))))⟩, ⟨(some 27), none, (.f (.mv (.t 81)))⟩]))))))) (.seq (.ops [⟨(some 82), none, (.f (.mv (.t 8)))⟩, ⟨(some 6), none, (.f (.mv (.t 82)))⟩]) .ret)))))
theorem k_spec_l07Values : compFn Tryz.prog [] F.spec_l07Values = some (c_spec_l07Values, [(.t 6)], 83) := by kernel_rfl

def c_impl_among : CC := (.seq (.ops [⟨(some 1), none, (.e (.box (.t 0)))⟩, ⟨(some 2), none, (.f (.mv .un))⟩]) (.seq (.ops [⟨(some 3), none, (.f (.mkfn F.impl_among_c1 [(.t 1)]))⟩, ⟨(some 2), none, (.f (.mv (.t 3)))⟩]) .ret))
theorem k_impl_among : compFn Tryz.prog [] F.impl_among = some (c_impl_among, [(.t 2)], 4) := by kernel_rfl

def c_impl_DifferenceOf : CC := (.seq (.ops [⟨(some 1), none, (.e (.box (.t 0)))⟩, ⟨(some 2), none, (.f (.mv (.k (.int .i64 0))))⟩]) (.seq (.ops [⟨(some 3), none, (.f (.fa 4 (.t 1)))⟩, ⟨(some 4), none, (.f (.ld1 (.t 3)))⟩, ⟨(some 5), none, (.f (.fa 5 (.t 1)))⟩, ⟨(some 6), none, (.f (.ld1 (.t 5)))⟩, ⟨(some 7), none, (.f (.bin .sub (.t 4) (.t 6)))⟩, ⟨(some 2), none, (.f (.mv (.t 7)))⟩]) .ret))
theorem k_impl_DifferenceOf : compFn Tryz.prog [] F.impl_DifferenceOf = some (c_impl_DifferenceOf, [(.t 2)], 8) := by kernel_rfl

def c_spec_l06Among : CC := (.seq (.ops [⟨(some 5), none, (.e (.box (.t 0)))⟩, ⟨(some 10), none, (.f (.mv .nil))⟩]) (.seq (.ops [⟨(some 14), none, (.f (.mv (.t 1)))⟩, ⟨(some 15), none, (.e (.mk 7 56 [(.v (.int .i64 0)), (.v (.int .i64 0)), (.v (.int .i64 0)), (.v (.int .i64 0)), (.v (.int .i64 0)), (.v (.int .i64 0)), (.v (.int .i64 0))] (.t 14) (.t 14)))⟩, ⟨(some 11), none, (.f (.mv (.t 15)))⟩]) (.seq (.seq (.ops [⟨(some 16), none, (.f (.mv (.t 2)))⟩, ⟨(some 17), none, (.f (.len (.t 16)))⟩, ⟨(some 18), none, (.f (.mv (.k (.int .i64 0))))⟩]) (.block 0 (.loop (.seq (.ops [⟨(some 19), none, (.f (.bin .lss (.t 18) (.t 17)))⟩]) (.seq (.cond (.t 19) .skip (.exit 0)) (.seq (.block 1 (.seq (.ops [⟨(some 20), none, (.f (.ia 5 (.t 16) (.t 18)))⟩, ⟨(some 21), none, (.f (.ld 5 (.t 20)))⟩, ⟨(some 13), none, (.e (.new [(.v (.int .i64 0)), (.v (.int .i64 0)), (.v (.int .i64 0)), (.v (.int .i64 0)), (.v (.int .i64 0))]))⟩, ⟨none, none, (.e (.st 5 (.t 13) (.t 21)))⟩]) (.seq (.ops [⟨(some 22), none, (.f (.mv (.t 4)))⟩, ⟨(some 23), none, (.f (.mv (.t 22)))⟩, ⟨(some 24), (some (23, false)), (.f (.mv (.t 3)))⟩, ⟨(some 25), (some (23, false)), (.f (.fa 0 (.t 13)))⟩, ⟨(some 26), (some (23, false)), (.f (.ld1 (.t 25)))⟩, ⟨(some 27), (some (23, false)), (.e (.call false F.spec_l02Has [(.t 24), (.t 26)]))⟩, ⟨(some 28), (some (23, false)), (.f (.mv (.t 27)))⟩, ⟨(some 29), (some (28, true)), (.f (.mv (.t 3)))⟩, ⟨(some 30), (some (28, true)), (.f (.fa 1 (.t 13)))⟩, ⟨(some 31), (some (28, true)), (.f (.ld1 (.t 30)))⟩, ⟨(some 32), (some (28, true)), (.e (.call false F.spec_l02Has [(.t 29), (.t 31)]))⟩, ⟨(some 33), (some (23, false)), (.f (.pick (.t 28) (.t 32) (.k (.bool false))))⟩, ⟨(some 34), none, (.f (.pick (.t 23) (.k (.bool true)) (.t 33)))⟩]) (.cond (.t 34) (.ops [⟨(some 35), none, (.f (.ld 5 (.t 5)))⟩, ⟨(some 36), none, (.f (.mv (.t 11)))⟩, ⟨(some 37), none, (.f (.ld 5 (.t 13)))⟩, ⟨(some 38), none, (.e (.call false F.spec_l06Add [(.t 35), (.t 36), (.t 37)]))⟩]) .skip)))) (.ops [⟨(some 39), none, (.f (.bin .add (.t 18) (.k (.int .i64 1))))⟩, ⟨(some 18), none, (.f (.mv (.t 39)))⟩]))))))) (.seq (.ops [⟨(some 40), none, (.f (.mv (.t 11)))⟩, ⟨(some 10), none, (.f (.mv (.t 40)))⟩]) .ret))))
theorem k_spec_l06Among : compFn Tryz.prog [] F.spec_l06Among = some (c_spec_l06Among, [(.t 10)], 41) := by kernel_rfl

def c_spec_DifferenceOf : CC := (.seq (.ops [⟨(some 1), none, (.e (.box (.t 0)))⟩, ⟨(some 2), none, (.f (.mv (.k (.int .i64 0))))⟩]) (.seq (.ops [⟨(some 3), none, (.f (.fa 4 (.t 1)))⟩, ⟨(some 4), none, (.f (.ld1 (.t 3)))⟩, ⟨(some 5), none, (.f (.fa 5 (.t 1)))⟩, ⟨(some 6), none, (.f (.ld1 (.t 5)))⟩, ⟨(some 7), none, (.f (.bin .sub (.t 4) (.t 6)))⟩, ⟨(some 2), none, (.f (.mv (.t 7)))⟩]) .ret))
theorem k_spec_DifferenceOf : compFn Tryz.prog [] F.spec_DifferenceOf = some (c_spec_DifferenceOf, [(.t 2)], 8) := by kernel_rfl

def c_impl_among_c1 : CC := (.seq (.ops [⟨(some 2), none, (.e (.box (.t 0)))⟩, ⟨(some 3), none, (.f (.mv (.k (.bool false))))⟩]) (.seq (.ops [⟨(some 4), none, (.f (.ld1 (.t 1)))⟩, ⟨(some 5), none, (.f (.fa 0 (.t 2)))⟩, ⟨(some 6), none, (.f (.ld1 (.t 5)))⟩, ⟨(some 7), none, (.e (.call false F.slices_Contains_int [(.t 4), (.t 6)]))⟩, ⟨(some 8), none, (.f (.mv (.t 7)))⟩, ⟨(some 9), (some (8, true)), (.f (.ld1 (.t 1)))⟩, ⟨(some 10), (some (8, true)), (.f (.fa 1 (.t 2)))⟩, ⟨(some 11), (some (8, true)), (.f (.ld1 (.t 10)))⟩, ⟨(some 12), (some (8, true)), (.e (.call false F.slices_Contains_int [(.t 9), (.t 11)]))⟩, ⟨(some 13), none, (.f (.pick (.t 8) (.t 12) (.k (.bool false))))⟩, ⟨(some 3), none, (.f (.mv (.t 13)))⟩]) .ret))
theorem k_impl_among_c1 : compFn Tryz.prog [] F.impl_among_c1 = some (c_impl_among_c1, [(.t 3)], 14) := by kernel_rfl

end Go.Proofs.YtneiicadhjdbiaaGreat.Ab

namespace Go.Proofs.YtneiicadhjdbiaaGreat.Ab
open Go

def c_spec_l06Add : CC := (.seq (.ops [⟨(some 3), none, (.e (.box (.t 0)))⟩, ⟨(some 5), none, (.e (.box (.t 2)))⟩]) (.seq (.ops [⟨(some 12), none, (.f (.ld 5 (.t 5)))⟩, ⟨(some 13), none, (.e (.call false F.spec_GoalsOf [(.t 12)]))⟩, ⟨(some 11), none, (.f (.mv (.t 13)))⟩, ⟨(some 14), none, (.f (.ext (.t 11) 0))⟩, ⟨(some 15), none, (.f (.ext (.t 11) 1))⟩, ⟨(some 16), none, (.f (.ext (.t 11) 2))⟩, ⟨(some 6), none, (.f (.mv (.t 14)))⟩, ⟨(some 7), none, (.f (.mv (.t 15)))⟩, ⟨(some 8), none, (.f (.mv (.t 16)))⟩]) (.seq (.seq (.ops [⟨(some 17), none, (.f (.mv (.t 8)))⟩, ⟨(some 18), none, (.f (.not (.t 17)))⟩]) (.cond (.t 18) .ret .skip)) (.seq (.ops [⟨(some 19), none, (.f (.mv (.t 6)))⟩, ⟨(some 20), none, (.f (.mv (.t 7)))⟩, ⟨(some 21), none, (.f (.build [(.v (.int .i64 0)), (.v (.int .i64 0)), (.v (.int .i64 0)), (.v (.int .i64 0)), (.v (.int .i64 0)), (.v (.int .i64 0)), (.v (.int .i64 0))] [(0, (1, (.k (.int .i64 1)))), (4, (1, (.t 19))), (5, (1, (.t 20)))]))⟩, ⟨(some 9), none, (.e (.new [(.v (.int .i64 0)), (.v (.int .i64 0)), (.v (.int .i64 0)), (.v (.int .i64 0)), (.v (.int .i64 0)), (.v (.int .i64 0)), (.v (.int .i64 0))]))⟩, ⟨none, none, (.e (.st 7 (.t 9) (.t 21)))⟩]) (.seq (.ops [⟨(some 22), none, (.f (.mv (.t 7)))⟩, ⟨(some 23), none, (.f (.mv (.t 6)))⟩, ⟨(some 24), none, (.f (.build [(.v (.int .i64 0)), (.v (.int .i64 0)), (.v (.int .i64 0)), (.v (.int .i64 0)), (.v (.int .i64 0)), (.v (.int .i64 0)), (.v (.int .i64 0))] [(0, (1, (.k (.int .i64 1)))), (4, (1, (.t 22))), (5, (1, (.t 23)))]))⟩, ⟨(some 10), none, (.e (.new [(.v (.int .i64 0)), (.v (.int .i64 0)), (.v (.int .i64 0)), (.v (.int .i64 0)), (.v (.int .i64 0)), (.v (.int .i64 0)), (.v (.int .i64 0))]))⟩, ⟨none, none, (.e (.st 7 (.t 10) (.t 24)))⟩]) (.seq (.seq (.ops [⟨(some 25), none, (.f (.ld 5 (.t 5)))⟩, ⟨(some 26), none, (.e (.call false F.spec_OutcomeOf [(.t 25)]))⟩]) (.block 0 (.seq (.ops [⟨(some 28), none, (.f (.bin .eql (.t 26) (.k (.int .i64 1))))⟩, ⟨(some 27), none, (.f (.mv (.t 28)))⟩]) (.cond (.t 27) (.seq (.ops [⟨(some 29), none, (.f (.fa 1 (.t 9)))⟩, ⟨none, none, (.e (.st 1 (.t 29) (.k (.int .i64 1))))⟩]) (.seq (.ops [⟨(some 30), none, (.f (.fa 3 (.t 10)))⟩, ⟨none, none, (.e (.st 1 (.t 30) (.k (.int .i64 1))))⟩]) (.seq (.ops [⟨(some 31), none, (.f (.fa 0 (.t 3)))⟩, ⟨(some 32), none, (.f (.ld1 (.t 31)))⟩, ⟨(some 33), none, (.f (.fa 6 (.t 9)))⟩, ⟨none, none, (.e (.st 1 (.t 33) (.t 32)))⟩]) (.ops [⟨(some 34), none, (.f (.fa 2 (.t 3)))⟩, ⟨(some 35), none, (.f (.ld1 (.t 34)))⟩, ⟨(some 36), none, (.f (.fa 6 (.t 10)))⟩, ⟨none, none, (.e (.st 1 (.t 36) (.t 35)))⟩])))) (.seq (.ops [⟨(some 38), none, (.f (.bin .eql (.t 26) (.k (.int .i64 2))))⟩, ⟨(some 37), none, (.f (.mv (.t 38)))⟩]) (.cond (.t 37) (.seq (.ops [⟨(some 39), none, (.f (.fa 2 (.t 9)))⟩, ⟨none, none, (.e (.st 1 (.t 39) (.k (.int .i64 1))))⟩]) (.seq (.ops [⟨(some 40), none, (.f (.fa 2 (.t 10)))⟩, ⟨none, none, (.e (.st 1 (.t 40) (.k (.int .i64 1))))⟩]) (.seq (.ops [⟨(some 41), none, (.f (.fa 1 (.t 3)))⟩, ⟨(some 42), none, (.f (.ld1 (.t 41)))⟩, ⟨(some 43), none, (.f (.fa 6 (.t 9)))⟩, ⟨none, none, (.e (.st 1 (.t 43) (.t 42)))⟩]) (.ops [⟨(some 44), none, (.f (.fa 1 (.t 3)))⟩, ⟨(some 45), none, (.f (.ld1 (.t 44)))⟩, ⟨(some 46), none, (.f (.fa 6 (.t 10)))⟩, ⟨none, none, (.e (.st 1 (.t 46) (.t 45)))⟩])))) (.seq (.ops [⟨(some 48), none, (.f (.bin .eql (.t 26) (.k (.int .i64 3))))⟩, ⟨(some 47), none, (.f (.mv (.t 48)))⟩]) (.cond (.t 47) (.seq (.ops [⟨(some 49), none, (.f (.fa 3 (.t 9)))⟩, ⟨none, none, (.e (.st 1 (.t 49) (.k (.int .i64 1))))⟩]) (.seq (.ops [⟨(some 50), none, (.f (.fa 1 (.t 10)))⟩, ⟨none, none, (.e (.st 1 (.t 50) (.k (.int .i64 1))))⟩]) (.seq (.ops [⟨(some 51), none, (.f (.fa 2 (.t 3)))⟩, ⟨(some 52), none, (.f (.ld1 (.t 51)))⟩, ⟨(some 53), none, (.f (.fa 6 (.t 9)))⟩, ⟨none, none, (.e (.st 1 (.t 53) (.t 52)))⟩]) (.ops [⟨(some 54), none, (.f (.fa 0 (.t 3)))⟩, ⟨(some 55), none, (.f (.ld1 (.t 54)))⟩, ⟨(some 56), none, (.f (.fa 6 (.t 10)))⟩, ⟨none, none, (.e (.st 1 (.t 56) (.t 55)))⟩])))) .skip)))))))) (.seq (.ops [⟨(some 57), none, (.f (.mv (.t 1)))⟩, ⟨(some 58), none, (.f (.fa 0 (.t 5)))⟩, ⟨(some 59), none, (.f (.ld1 (.t 58)))⟩, ⟨(some 60), none, (.f (.mv (.t 1)))⟩, ⟨(some 61), none, (.f (.fa 0 (.t 5)))⟩, ⟨(some 62), none, (.f (.ld1 (.t 61)))⟩, ⟨(some 63), none, (.f (.ia 7 (.t 60) (.t 62)))⟩, ⟨(some 64), none, (.f (.ld 7 (.t 63)))⟩, ⟨(some 65), none, (.f (.ld 7 (.t 9)))⟩, ⟨(some 66), none, (.e (.call true F.spec_AddRows [(.t 64), (.t 65)]))⟩, ⟨(some 67), none, (.f (.ia 7 (.t 57) (.t 59)))⟩, ⟨none, none, (.e (.st 7 (.t 67) (.t 66)))⟩]) (.ops [⟨(some 68), none, (.f (.mv (.t 1)))⟩, ⟨(some 69), none, (.f (.fa 1 (.t 5)))⟩, ⟨(some 70), none, (.f (.ld1 (.t 69)))⟩, ⟨(some 71), none, (.f (.mv (.t 1)))⟩, ⟨(some 72), none, (.f (.fa 1 (.t 5)))⟩, ⟨(some 73), none, (.f (.ld1 (.t 72)))⟩, ⟨(some 74), none, (.f (.ia 7 (.t 71) (.t 73)))⟩, ⟨(some 75), none, (.f (.ld 7 (.t 74)))⟩, ⟨(some 76), none, (.f (.ld 7 (.t 10)))⟩, ⟨(some 77), none, (.e (.call true F.spec_AddRows [(.t 75), (.t 76)]))⟩, ⟨(some 78), none, (.f (.ia 7 (.t 68) (.t 70)))⟩, ⟨none, none, (.e (.st 7 (.t 78) (.t 77)))⟩]))))))))
theorem k_spec_l06Add : compFn Tryz.prog [] F.spec_l06Add = some (c_spec_l06Add, [], 79) := by kernel_rfl

def c_spec_GoalsOf : CC := (.seq (.ops [⟨(some 1), none, (.e (.box (.t 0)))⟩, ⟨(some 2), none, (.f (.mv (.k (.int .i64 0))))⟩, ⟨(some 3), none, (.f (.mv (.k (.int .i64 0))))⟩, ⟨(some 4), none, (.f (.mv (.k (.bool false))))⟩]) (.seq (.seq (.ops [⟨(some 5), none, (.f (.fa 4 (.t 1)))⟩, ⟨(some 6), none, (.f (.ld1 (.t 5)))⟩]) (.block 0 (.seq (.ops [⟨(some 8), none, (.f (.bin .eql (.t 6) (.k (.int .i64 1))))⟩, ⟨(some 7), none, (.f (.mv (.t 8)))⟩]) (.cond (.t 7) (.seq (.ops [⟨(some 9), none, (.f (.fa 2 (.t 1)))⟩, ⟨(some 10), none, (.f (.ld1 (.t 9)))⟩, ⟨(some 11), none, (.f (.fa 3 (.t 1)))⟩, ⟨(some 12), none, (.f (.ld1 (.t 11)))⟩, ⟨(some 2), none, (.f (.mv (.t 10)))⟩, ⟨(some 3), none, (.f (.mv (.t 12)))⟩, ⟨(some 4), none, (.f (.mv (.k (.bool true))))⟩]) .ret) (.seq (.ops [⟨(some 14), none, (.f (.bin .eql (.t 6) (.k (.int .i64 2))))⟩, ⟨(some 13), none, (.f (.mv (.t 14)))⟩]) (.cond (.t 13) (.seq (.ops [⟨(some 2), none, (.f (.mv (.k (.int .i64 3))))⟩, ⟨(some 3), none, (.f (.mv (.k (.int .i64 0))))⟩, ⟨(some 4), none, (.f (.mv (.k (.bool true))))⟩]) .ret) (.seq (.ops [⟨(some 16), none, (.f (.bin .eql (.t 6) (.k (.int .i64 3))))⟩, ⟨(some 15), none, (.f (.mv (.t 16)))⟩]) (.cond (.t 15) (.seq (.ops [⟨(some 2), none, (.f (.mv (.k (.int .i64 0))))⟩, ⟨(some 3), none, (.f (.mv (.k (.int .i64 3))))⟩, ⟨(some 4), none, (.f (.mv (.k (.bool true))))⟩]) .ret) .skip)))))))) (.seq (.ops [⟨(some 2), none, (.f (.mv (.k (.int .i64 0))))⟩, ⟨(some 3), none, (.f (.mv (.k (.int .i64 0))))⟩, ⟨(some 4), none, (.f (.mv (.k (.bool false))))⟩]) .ret)))
theorem k_spec_GoalsOf : compFn Tryz.prog [] F.spec_GoalsOf = some (c_spec_GoalsOf, [(.t 2), (.t 3), (.t 4)], 17) := by kernel_rfl

def c_spec_OutcomeOf : CC := (.seq (.ops [⟨(some 1), none, (.e (.box (.t 0)))⟩, ⟨(some 2), none, (.f (.mv (.k (.int .i64 0))))⟩]) (.seq (.ops [⟨(some 7), none, (.f (.ld 5 (.t 1)))⟩, ⟨(some 8), none, (.e (.call false F.spec_GoalsOf [(.t 7)]))⟩, ⟨(some 6), none, (.f (.mv (.t 8)))⟩, ⟨(some 9), none, (.f (.ext (.t 6) 0))⟩, ⟨(some 10), none, (.f (.ext (.t 6) 1))⟩, ⟨(some 11), none, (.f (.ext (.t 6) 2))⟩, ⟨(some 3), none, (.f (.mv (.t 9)))⟩, ⟨(some 4), none, (.f (.mv (.t 10)))⟩, ⟨(some 5), none, (.f (.mv (.t 11)))⟩]) (.seq (.block 0 (.seq (.ops [⟨(some 13), none, (.f (.mv (.t 5)))⟩, ⟨(some 14), none, (.f (.not (.t 13)))⟩, ⟨(some 12), none, (.f (.mv (.t 14)))⟩]) (.cond (.t 12) (.seq (.ops [⟨(some 2), none, (.f (.mv (.k (.int .i64 0))))⟩]) .ret) (.seq (.ops [⟨(some 16), none, (.f (.mv (.t 3)))⟩, ⟨(some 17), none, (.f (.mv (.t 4)))⟩, ⟨(some 18), none, (.f (.bin .gtr (.t 16) (.t 17)))⟩, ⟨(some 15), none, (.f (.mv (.t 18)))⟩]) (.cond (.t 15) (.seq (.ops [⟨(some 2), none, (.f (.mv (.k (.int .i64 1))))⟩]) .ret) (.seq (.ops [⟨(some 20), none, (.f (.mv (.t 3)))⟩, ⟨(some 21), none, (.f (.mv (.t 4)))⟩, ⟨(some 22), none, (.f (.bin .eql (.t 20) (.t 21)))⟩, ⟨(some 19), none, (.f (.mv (.t 22)))⟩]) (.cond (.t 19) (.seq (.ops [⟨(some 2), none, (.f (.mv (.k (.int .i64 2))))⟩]) .ret) .skip))))))) (.seq (.ops [⟨(some 2), none, (.f (.mv (.k (.int .i64 3))))⟩]) .ret))))
theorem k_spec_OutcomeOf : compFn Tryz.prog [] F.spec_OutcomeOf = some (c_spec_OutcomeOf, [(.t 2)], 23) := by kernel_rfl

def c_spec_AddRows : CC := (.seq (.ops [⟨(some 2), none, (.e (.box (.t 0)))⟩, ⟨(some 3), none, (.e (.box (.t 1)))⟩, ⟨(some 4), none, (.e (.new [(.v (.int .i64 0)), (.v (.int .i64 0)), (.v (.int .i64 0)), (.v (.int .i64 0)), (.v (.int .i64 0)), (.v (.int .i64 0)), (.v (.int .i64 0))]))⟩]) (.seq (.ops [⟨(some 5), none, (.f (.fa 0 (.t 2)))⟩, ⟨(some 6), none, (.f (.ld1 (.t 5)))⟩, ⟨(some 7), none, (.f (.fa 0 (.t 3)))⟩, ⟨(some 8), none, (.f (.ld1 (.t 7)))⟩, ⟨(some 9), none, (.f (.bin .add (.t 6) (.t 8)))⟩, ⟨(some 10), none, (.f (.fa 1 (.t 2)))⟩, ⟨(some 11), none, (.f (.ld1 (.t 10)))⟩, ⟨(some 12), none, (.f (.fa 1 (.t 3)))⟩, ⟨(some 13), none, (.f (.ld1 (.t 12)))⟩, ⟨(some 14), none, (.f (.bin .add (.t 11) (.t 13)))⟩, ⟨(some 15), none, (.f (.fa 2 (.t 2)))⟩, ⟨(some 16), none, (.f (.ld1 (.t 15)))⟩, ⟨(some 17), none, (.f (.fa 2 (.t 3)))⟩, ⟨(some 18), none, (.f (.ld1 (.t 17)))⟩, ⟨(some 19), none, (.f (.bin .add (.t 16) (.t 18)))⟩, ⟨(some 20), none, (.f (.fa 3 (.t 2)))⟩, ⟨(some 21), none, (.f (.ld1 (.t 20)))⟩, ⟨(some 22), none, (.f (.fa 3 (.t 3)))⟩, ⟨(some 23), none, (.f (.ld1 (.t 22)))⟩, ⟨(some 24), none, (.f (.bin .add (.t 21) (.t 23)))⟩, ⟨(some 25), none, (.f (.fa 4 (.t 2)))⟩, ⟨(some 26), none, (.f (.ld1 (.t 25)))⟩, ⟨(some 27), none, (.f (.fa 4 (.t 3)))⟩, ⟨(some 28), none, (.f (.ld1 (.t 27)))⟩, ⟨(some 29), none, (.f (.bin .add (.t 26) (.t 28)))⟩, ⟨(some 30), none, (.f (.fa 5 (.t 2)))⟩, ⟨(some 31), none, (.f (.ld1 (.t 30)))⟩, ⟨(some 32), none, (.f (.fa 5 (.t 3)))⟩, ⟨(some 33), none, (.f (.ld1 (.t 32)))⟩, ⟨(some 34), none, (.f (.bin .add (.t 31) (.t 33)))⟩, ⟨(some 35), none, (.f (.fa 6 (.t 2)))⟩, ⟨(some 36), none, (.f (.ld1 (.t 35)))⟩, ⟨(some 37), none, (.f (.fa 6 (.t 3)))⟩, ⟨(some 38), none, (.f (.ld1 (.t 37)))⟩, ⟨(some 39), none, (.f (.bin .add (.t 36) (.t 38)))⟩, ⟨(some 40), none, (.f (.build [(.v (.int .i64 0)), (.v (.int .i64 0)), (.v (.int .i64 0)), (.v (.int .i64 0)), (.v (.int .i64 0)), (.v (.int .i64 0)), (.v (.int .i64 0))] [(0, (1, (.t 9))), (1, (1, (.t 14))), (2, (1, (.t 19))), (3, (1, (.t 24))), (4, (1, (.t 29))), (5, (1, (.t 34))), (6, (1, (.t 39)))]))⟩, ⟨none, none, (.e (.st 7 (.t 4) (.t 40)))⟩]) .ret))
theorem k_spec_AddRows : compFn Tryz.prog [] F.spec_AddRows = some (c_spec_AddRows, [(.cl 7 4)], 41) := by kernel_rfl

end Go.Proofs.YtneiicadhjdbiaaGreat.Ab

namespace Go.Proofs.YtneiicadhjdbiaaGreat.Ab
open Go

theorem eqIntS (a b : List Int) (ha : a.length < 4611686018427387904) : AFunD Tryz.prog F.laws_eqIntS [DV (vInts a), DV (vInts b)] (DV (.bool (decide (a = b)))) := by
  refine AFunD.intro k_laws_eqIntS (by simp) ?pure ?_
  case pure => first | exact D.pure_v _ | exact D.pure_vs _
  unfold c_laws_eqIntS
  simp only [argE, Nat.reduceAdd]
  simp only [vInts]
  simp -implicitDefEqProofs only [go_sem, ↓reduceIte, Nat.reduceEqDiff, Nat.reduceAdd, Nat.reduceLeDiff]
  refine condA_dec (fun h => ?_) (fun h => ?_)
  · simp -implicitDefEqProofs only [go_sem, ↓reduceIte, Nat.reduceEqDiff, Nat.reduceAdd, Nat.reduceLeDiff]
    refine finK_v ⟨?_, rfl⟩
    have : a ≠ b := by rintro rfl; simp at h
    simp [this]
  · simp -implicitDefEqProofs only [go_sem, ↓reduceIte, Nat.reduceEqDiff, Nat.reduceAdd, Nat.reduceLeDiff]
    have hl : a.length = b.length := by omega
    refine loop_st (S := Nat) (fun i => [(0, DV (vInts a)), (1, DV (vInts b)), (5, DV (vInt i))]) (fun _ => []) (fun i => a.length - i) (fun i => i ≤ a.length ∧ a.take i = b.take i) 0 (Nat.zero_le _)
      ⟨rfl, rfl, rfl, trivial⟩ rfl ⟨Nat.zero_le _, rfl⟩ ?_
    rintro i ⟨hi, hp⟩
    simp -implicitDefEqProofs only [go_sem, ↓reduceIte, Nat.reduceEqDiff, Nat.reduceAdd, Nat.reduceLeDiff, vInts, vInt]
    refine condA_dec (fun h => ?_) (fun h => ?_)
    · have hlt : i < a.length := by omega
      have hlt' : i < b.length := by omega
      simp -implicitDefEqProofs only [go_sem, ↓reduceIte, Nat.reduceEqDiff, Nat.reduceAdd, Nat.reduceLeDiff, List.getElem?_eq_getElem hlt, List.getElem?_eq_getElem hlt']
      refine condA_dec (fun h => ?_) (fun h => ?_)
      · simp -implicitDefEqProofs only [go_sem, ↓reduceIte, Nat.reduceEqDiff, Nat.reduceAdd, Nat.reduceLeDiff]
        refine finK_v ⟨?_, rfl⟩
        have : a ≠ b := by rintro rfl; simp at h
        simp [this]
      · simp -implicitDefEqProofs only [go_sem, ↓reduceIte, Nat.reduceEqDiff, Nat.reduceAdd, Nat.reduceLeDiff, w64s (show i < 4611686018427387904 by omega)]
        refine next_of (i + 1) (by omega) ⟨by omega, ?_⟩ (Nat.zero_le _) ⟨rfl, rfl, rfl, trivial⟩ rfl
        have : a[i] = b[i] := by simpa using h
        rw [List.take_succ_eq_append_getElem hlt, List.take_succ_eq_append_getElem hlt', hp, this]
    · simp -implicitDefEqProofs only [go_sem, ↓reduceIte, Nat.reduceEqDiff, Nat.reduceAdd, Nat.reduceLeDiff]
      refine finK_v ⟨?_, rfl⟩
      have : i = a.length := by omega
      subst this
      have : a = b := by rw [List.take_length] at hp; rw [hp, hl, List.take_length]
      simp [this]

theorem szIntS (a : List Int) (k : Int) (hk : 0 ≤ k) (hk' : k ≤ 1048576) (ha : a.length < 4611686018427387904) : AFunD Tryz.prog F.laws_szIntS [DV (vInts a), DV (vInt k)] (DV (vInt (if k < a.length then -1 else k - a.length))) := by
  refine AFunD.intro k_laws_szIntS (by simp) ?pure ?_
  case pure => first | exact D.pure_v _ | exact D.pure_vs _
  unfold c_laws_szIntS
  simp only [argE, Nat.reduceAdd]
  simp only [vInts]
  simp -implicitDefEqProofs only [go_sem, ↓reduceIte, Nat.reduceEqDiff, Nat.reduceAdd, Nat.reduceLeDiff]
  rw [w64 (by omega) (by omega)]
  refine condA_dec (fun h => ?_) (fun h => ?_)
  · simp -implicitDefEqProofs only [go_sem, ↓reduceIte, Nat.reduceEqDiff, Nat.reduceAdd, Nat.reduceLeDiff]
    refine finK_v ⟨?_, rfl⟩
    rw [if_pos (by omega)]
  · simp -implicitDefEqProofs only [go_sem, ↓reduceIte, Nat.reduceEqDiff, Nat.reduceAdd, Nat.reduceLeDiff]
    refine finK_v ⟨?_, rfl⟩
    rw [if_neg (by omega)]

theorem toTeam (t : Team) : AFunD Tryz.prog F.laws_toTeam [dTeam t] (dTeam t) := by
  refine AFunD.intro k_laws_toTeam (by simp) ?pure ?_
  case pure => first | exact D.pure_v _ | exact D.pure_vs _
  unfold c_laws_toTeam
  simp only [argE, Nat.reduceAdd]
  simp only [dTeam, eTeam]
  simp -implicitDefEqProofs only [go_sem, ↓reduceIte, Nat.reduceEqDiff, Nat.reduceAdd, Nat.reduceLeDiff]
  refine finK_fz (FzD.agg (ys := eTeam t) ⟨.v _, .v _, .v _, trivial⟩) ⟨rfl, rfl⟩

theorem toGame (g : Game) : AFunD Tryz.prog F.laws_toGame [dGame g] (dGame g) := by
  refine AFunD.intro k_laws_toGame (by simp) ?pure ?_
  case pure => first | exact D.pure_v _ | exact D.pure_vs _
  unfold c_laws_toGame
  simp only [argE, Nat.reduceAdd]
  simp only [dGame, eGame]
  simp -implicitDefEqProofs only [go_sem, ↓reduceIte, Nat.reduceEqDiff, Nat.reduceAdd, Nat.reduceLeDiff]
  refine finK_fz (FzD.agg (ys := eGame g) ⟨.v _, .v _, .v _, .v _, .v _, trivial⟩) ⟨rfl, rfl⟩

instance : DecidableEq Team := fun a b => decidable_of_iff (a.name = b.name ∧ a.club = b.club ∧ a.seed = b.seed) (by cases a; cases b; simp)
instance : DecidableEq Game := fun a b => decidable_of_iff (a.home = b.home ∧ a.away = b.away ∧ a.hg = b.hg ∧ a.ag = b.ag ∧ a.state = b.state) (by cases a; cases b; simp)
instance : DecidableEq Rules := fun a b => decidable_of_iff (a.win = b.win ∧ a.draw = b.draw ∧ a.loss = b.loss ∧ a.ladder = b.ladder ∧ a.again = b.again) (by cases a; cases b; simp)
instance : DecidableEq Book := fun a b => decidable_of_iff (a.field = b.field ∧ a.rules = b.rules ∧ a.games = b.games ∧ a.fair = b.fair ∧ a.taken = b.taken) (by cases a; cases b; simp)

theorem eqTeam (a b : Team) : AFunD Tryz.prog F.laws_eqTeam [dTeam a, dTeam b] (DV (.bool (decide (a = b)))) := by
  refine AFunD.intro k_laws_eqTeam (by simp) ?pure ?_
  case pure => first | exact D.pure_v _ | exact D.pure_vs _
  unfold c_laws_eqTeam
  simp only [argE, Nat.reduceAdd]
  simp only [dTeam, eTeam]
  simp -implicitDefEqProofs only [go_sem, ↓reduceIte, Nat.reduceEqDiff, Nat.reduceAdd, Nat.reduceLeDiff]
  refine condA_dec (fun h => ?_) (fun h => ?_)
  · simp -implicitDefEqProofs only [go_sem, ↓reduceIte, Nat.reduceEqDiff, Nat.reduceAdd, Nat.reduceLeDiff]
    exact finK_v ⟨by simp only [decide_eq_false (show ¬ a = b from fun e => h (by rw [e]))], rfl⟩
  simp -implicitDefEqProofs only [go_sem, ↓reduceIte, Nat.reduceEqDiff, Nat.reduceAdd, Nat.reduceLeDiff]
  refine condA_dec (fun h => ?_) (fun h => ?_)
  · simp -implicitDefEqProofs only [go_sem, ↓reduceIte, Nat.reduceEqDiff, Nat.reduceAdd, Nat.reduceLeDiff]
    exact finK_v ⟨by simp only [decide_eq_false (show ¬ a = b from fun e => h (by rw [e]))], rfl⟩
  simp -implicitDefEqProofs only [go_sem, ↓reduceIte, Nat.reduceEqDiff, Nat.reduceAdd, Nat.reduceLeDiff]
  refine condA_dec (fun h => ?_) (fun h => ?_)
  · simp -implicitDefEqProofs only [go_sem, ↓reduceIte, Nat.reduceEqDiff, Nat.reduceAdd, Nat.reduceLeDiff]
    exact finK_v ⟨by simp only [decide_eq_false (show ¬ a = b from fun e => h (by rw [e]))], rfl⟩
  simp -implicitDefEqProofs only [go_sem, ↓reduceIte, Nat.reduceEqDiff, Nat.reduceAdd, Nat.reduceLeDiff]
  refine finK_v ⟨?_, rfl⟩
  have : a = b := by cases a; cases b; simp_all
  simp [this]

theorem eqGame (a b : Game) : AFunD Tryz.prog F.laws_eqGame [dGame a, dGame b] (DV (.bool (decide (a = b)))) := by
  refine AFunD.intro k_laws_eqGame (by simp) ?pure ?_
  case pure => first | exact D.pure_v _ | exact D.pure_vs _
  unfold c_laws_eqGame
  simp only [argE, Nat.reduceAdd]
  simp only [dGame, eGame]
  simp -implicitDefEqProofs only [go_sem, ↓reduceIte, Nat.reduceEqDiff, Nat.reduceAdd, Nat.reduceLeDiff]
  refine condA_dec (fun h => ?_) (fun h => ?_)
  · simp -implicitDefEqProofs only [go_sem, ↓reduceIte, Nat.reduceEqDiff, Nat.reduceAdd, Nat.reduceLeDiff]
    exact finK_v ⟨by simp only [decide_eq_false (show ¬ a = b from fun e => h (by rw [e]))], rfl⟩
  simp -implicitDefEqProofs only [go_sem, ↓reduceIte, Nat.reduceEqDiff, Nat.reduceAdd, Nat.reduceLeDiff]
  refine condA_dec (fun h => ?_) (fun h => ?_)
  · simp -implicitDefEqProofs only [go_sem, ↓reduceIte, Nat.reduceEqDiff, Nat.reduceAdd, Nat.reduceLeDiff]
    exact finK_v ⟨by simp only [decide_eq_false (show ¬ a = b from fun e => h (by rw [e]))], rfl⟩
  simp -implicitDefEqProofs only [go_sem, ↓reduceIte, Nat.reduceEqDiff, Nat.reduceAdd, Nat.reduceLeDiff]
  refine condA_dec (fun h => ?_) (fun h => ?_)
  · simp -implicitDefEqProofs only [go_sem, ↓reduceIte, Nat.reduceEqDiff, Nat.reduceAdd, Nat.reduceLeDiff]
    exact finK_v ⟨by simp only [decide_eq_false (show ¬ a = b from fun e => h (by rw [e]))], rfl⟩
  simp -implicitDefEqProofs only [go_sem, ↓reduceIte, Nat.reduceEqDiff, Nat.reduceAdd, Nat.reduceLeDiff]
  refine condA_dec (fun h => ?_) (fun h => ?_)
  · simp -implicitDefEqProofs only [go_sem, ↓reduceIte, Nat.reduceEqDiff, Nat.reduceAdd, Nat.reduceLeDiff]
    exact finK_v ⟨by simp only [decide_eq_false (show ¬ a = b from fun e => h (by rw [e]))], rfl⟩
  simp -implicitDefEqProofs only [go_sem, ↓reduceIte, Nat.reduceEqDiff, Nat.reduceAdd, Nat.reduceLeDiff]
  refine condA_dec (fun h => ?_) (fun h => ?_)
  · simp -implicitDefEqProofs only [go_sem, ↓reduceIte, Nat.reduceEqDiff, Nat.reduceAdd, Nat.reduceLeDiff]
    exact finK_v ⟨by simp only [decide_eq_false (show ¬ a = b from fun e => h (by rw [e]))], rfl⟩
  simp -implicitDefEqProofs only [go_sem, ↓reduceIte, Nat.reduceEqDiff, Nat.reduceAdd, Nat.reduceLeDiff]
  refine finK_v ⟨?_, rfl⟩
  have : a = b := by cases a; cases b; simp_all
  simp [this]

theorem eqRules (a b : Rules) (ha : a.ladder.length < 4611686018427387904) : AFunD Tryz.prog F.laws_eqRules [dRules a, dRules b] (DV (.bool (decide (a = b)))) := by
  refine AFunD.intro k_laws_eqRules (by simp) ?pure ?_
  case pure => first | exact D.pure_v _ | exact D.pure_vs _
  unfold c_laws_eqRules
  simp only [argE, Nat.reduceAdd]
  simp only [dRules, eRules]
  simp -implicitDefEqProofs only [go_sem, ↓reduceIte, Nat.reduceEqDiff, Nat.reduceAdd, Nat.reduceLeDiff]
  refine condA_dec (fun h => ?_) (fun h => ?_)
  · simp -implicitDefEqProofs only [go_sem, ↓reduceIte, Nat.reduceEqDiff, Nat.reduceAdd, Nat.reduceLeDiff]
    exact finK_v ⟨by simp only [decide_eq_false (show ¬ a = b from fun e => h (by rw [e]))], rfl⟩
  simp -implicitDefEqProofs only [go_sem, ↓reduceIte, Nat.reduceEqDiff, Nat.reduceAdd, Nat.reduceLeDiff]
  refine condA_dec (fun h => ?_) (fun h => ?_)
  · simp -implicitDefEqProofs only [go_sem, ↓reduceIte, Nat.reduceEqDiff, Nat.reduceAdd, Nat.reduceLeDiff]
    exact finK_v ⟨by simp only [decide_eq_false (show ¬ a = b from fun e => h (by rw [e]))], rfl⟩
  simp -implicitDefEqProofs only [go_sem, ↓reduceIte, Nat.reduceEqDiff, Nat.reduceAdd, Nat.reduceLeDiff]
  refine condA_dec (fun h => ?_) (fun h => ?_)
  · simp -implicitDefEqProofs only [go_sem, ↓reduceIte, Nat.reduceEqDiff, Nat.reduceAdd, Nat.reduceLeDiff]
    exact finK_v ⟨by simp only [decide_eq_false (show ¬ a = b from fun e => h (by rw [e]))], rfl⟩
  simp -implicitDefEqProofs only [go_sem, ↓reduceIte, Nat.reduceEqDiff, Nat.reduceAdd, Nat.reduceLeDiff]
  refine (eqIntS a.ladder b.ladder ha).callp (.v _ (.v _ .nil)) ?_
  simp -implicitDefEqProofs only [go_sem, ↓reduceIte, Nat.reduceEqDiff, Nat.reduceAdd, Nat.reduceLeDiff]
  refine condA_of (fun h => ?_) (fun h => ?_)
  · simp -implicitDefEqProofs only [go_sem, ↓reduceIte, Nat.reduceEqDiff, Nat.reduceAdd, Nat.reduceLeDiff]
    exact finK_v ⟨by simp only [decide_eq_false (show ¬ a = b from fun e => by rw [e] at h; simp at h)], rfl⟩
  simp -implicitDefEqProofs only [go_sem, ↓reduceIte, Nat.reduceEqDiff, Nat.reduceAdd, Nat.reduceLeDiff]
  refine condA_of (fun h => ?_) (fun h => ?_)
  · simp -implicitDefEqProofs only [go_sem, ↓reduceIte, Nat.reduceEqDiff, Nat.reduceAdd, Nat.reduceLeDiff]
    exact finK_v ⟨by simp only [decide_eq_false (show ¬ a = b from fun e => by rw [e] at h; simp at h)], rfl⟩
  simp -implicitDefEqProofs only [go_sem, ↓reduceIte, Nat.reduceEqDiff, Nat.reduceAdd, Nat.reduceLeDiff]
  refine finK_v ⟨?_, rfl⟩
  have : a = b := by cases a; cases b; simp_all
  simp [this]

end Go.Proofs.YtneiicadhjdbiaaGreat.Ab

namespace Go.Proofs.YtneiicadhjdbiaaGreat.Ab
open Go

theorem finK_refl {n0 : Nat} {m : List Blk} {K : D → List Blk → Prop} {d : D} (hn : n0 ≤ m.length) (k : K d m) : finK n0 m K d := ⟨d, m, WkD.refl hn, k⟩

theorem manyC_len (n : Nat) (z : List C) : (manyC n z).length = n * z.length := by
  induction n with
  | zero => simp [manyC]
  | succ n ih => simp [manyC, ih, Nat.add_mul]; omega

theorem putCells_at : ∀ (xs A z r : List C), z.length = xs.length → putCells (A ++ (z ++ r)) A.length xs = A ++ (xs ++ r)
  | [], A, z, r, h => by
    have : z = [] := List.eq_nil_of_length_eq_zero h
    subst this; rfl
  | x :: xs, A, z, r, h => by
    cases z with
    | nil => simp at h
    | cons y z =>
      have := putCells_at xs (A ++ [x]) z r (by simpa using h)
      simp only [putCells]
      have e : (A ++ (y :: z ++ r)).set A.length x = (A ++ [x]) ++ (z ++ r) := by
        rw [List.set_append_right _ _ (Nat.le_refl _)]; simp
      rw [e, show A.length + 1 = (A ++ [x]).length by simp, this]; simp

theorem flat_len {α : Type} (f : α → List V) (sz : Nat) (hf : ∀ x, (f x).length = sz) (l : List α) : (cOf f l).length = l.length * sz := by
  induction l with
  | nil => simp [cOf]
  | cons x r ih => simp only [cOf] at ih; simp [cOf, hf] at ih ⊢; rw [ih, Nat.add_mul]; omega

theorem cOf_append {α : Type} (f : α → List V) (a b : List α) : cOf f (a ++ b) = cOf f a ++ cOf f b := by simp [cOf]
theorem cOf_one {α : Type} (f : α → List V) (x : α) : cOf f [x] = (f x).map .v := by simp [cOf]

/-- One more element is written. -/
theorem put_next {α : Type} (f : α → List V) (sz : Nat) (hf : ∀ x, (f x).length = sz) (z : List C) (hz : z.length = sz) (l : List α) (i : Nat) (hi : i < l.length) :
    putCells (cOf f (l.take i) ++ manyC (l.length - i) z) (i * sz) ((f l[i]).map .v) = cOf f (l.take (i + 1)) ++ manyC (l.length - (i + 1)) z := by
  have e1 : manyC (l.length - i) z = z ++ manyC (l.length - (i + 1)) z := by
    rw [show l.length - i = (l.length - (i + 1)) + 1 from by omega]; rfl
  have e2 : i * sz = (cOf f (l.take i)).length := by rw [flat_len f sz hf, List.length_take, Nat.min_eq_left (by omega)]
  rw [e1, e2, putCells_at _ _ _ _ (by simp [hf, hz]), List.take_succ_eq_append_getElem hi, cOf_append, cOf_one]; simp

theorem part_len {α : Type} (f : α → List V) (sz : Nat) (hf : ∀ x, (f x).length = sz) (z : List C) (hz : z.length = sz) (l : List α) (i : Nat) (hi : i ≤ l.length) :
    (cOf f (l.take i) ++ manyC (l.length - i) z).length = l.length * sz := by
  rw [List.length_append, flat_len f sz hf, manyC_len, hz, List.length_take, Nat.min_eq_left hi, ← Nat.add_mul]
  congr 1; omega

theorem lt_mul_of {i n sz : Nat} (h : i < n) : i * sz + sz ≤ n * sz := by
  have := Nat.mul_le_mul_right sz (show i + 1 ≤ n from h)
  rwa [Nat.add_mul, Nat.one_mul] at this

theorem toTeamS (l : List Team) (hl : l.length ≤ 1048576) : AFun Tryz.prog F.laws_toTeamS [DV (vTeams l)] [] fun d m => d = DC (.sl 3 0 0 l.length) ∧ m = [.cells (cOf eTeam l)] := by
  refine AFun.intro k_laws_toTeamS (by simp) ?_
  unfold c_laws_toTeamS
  simp only [argE, Nat.reduceAdd]
  simp only [vTeams]
  simp -implicitDefEqProofs only [go_sem, ↓reduceIte, Nat.reduceEqDiff, Nat.reduceAdd, Nat.reduceLeDiff]
  refine ⟨Int.le_refl _, by omega, by omega, ?_⟩
  let z : List C := [.v (.str []), .v (.int .i64 0), .v (.int .i64 0)]
  refine loop_st (S := Nat) (fun i => [(0, DV (vTeams l)), (3, DC (.sl 3 0 0 l.length)), (4, DV (vInt i))]) (fun i => [.cells (cOf eTeam (l.take i) ++ manyC (l.length - i) z)]) (fun i => l.length - i) (fun i => i ≤ l.length) 0 (Nat.zero_le _)
    ⟨rfl, rfl, rfl, trivial⟩ rfl (Nat.zero_le _) ?_
  intro i hi
  simp -implicitDefEqProofs only [go_sem, ↓reduceIte, Nat.reduceEqDiff, Nat.reduceAdd, Nat.reduceLeDiff, vTeams, vInt]
  refine condA_dec (fun h => ?_) (fun h => ?_)
  · have hlt : i < l.length := by omega
    simp -implicitDefEqProofs only [go_sem, ↓reduceIte, Nat.reduceEqDiff, Nat.reduceAdd, Nat.reduceLeDiff, List.getElem?_eq_getElem hlt]
    refine (toTeam l[i]).callp (.vs _ .nil) ?_
    simp -implicitDefEqProofs only [go_sem, ↓reduceIte, Nat.reduceEqDiff, Nat.reduceAdd, Nat.reduceLeDiff]
    refine ⟨by omega, ?_⟩
    simp -implicitDefEqProofs only [go_sem, ↓reduceIte, Nat.reduceEqDiff, Nat.reduceAdd, Nat.reduceLeDiff, dTeam]
    rw [part_len eTeam 3 (fun _ => rfl) z rfl l i hi, if_pos (by have := lt_mul_of (sz := 3) hlt; omega), Nat.zero_add, put_next eTeam 3 (fun _ => rfl) z rfl l i hlt]
    simp -implicitDefEqProofs only [go_sem, ↓reduceIte, Nat.reduceEqDiff, Nat.reduceAdd, Nat.reduceLeDiff, w64s (show i < 4611686018427387904 by omega)]
    exact next_of (i + 1) (by omega) (by omega) (Nat.zero_le _) ⟨rfl, rfl, rfl, trivial⟩ rfl
  · simp -implicitDefEqProofs only [go_sem, ↓reduceIte, Nat.reduceEqDiff, Nat.reduceAdd, Nat.reduceLeDiff]
    have : i = l.length := by omega
    subst this
    refine finK_refl (Nat.zero_le _) ⟨rfl, ?_⟩
    rw [List.take_length, Nat.sub_self]; simp [manyC]

end Go.Proofs.YtneiicadhjdbiaaGreat.Ab

namespace Go.Proofs.YtneiicadhjdbiaaGreat.Ab
open Go

theorem toGameS (l : List Game) (hl : l.length ≤ 1048576) : AFun Tryz.prog F.laws_toGameS [DV (vGames l)] [] fun d m => d = DC (.sl 5 0 0 l.length) ∧ m = [.cells (cOf eGame l)] := by
  refine AFun.intro k_laws_toGameS (by simp) ?_
  unfold c_laws_toGameS
  simp only [argE, Nat.reduceAdd]
  simp only [vGames]
  simp -implicitDefEqProofs only [go_sem, ↓reduceIte, Nat.reduceEqDiff, Nat.reduceAdd, Nat.reduceLeDiff]
  refine ⟨Int.le_refl _, by omega, by omega, ?_⟩
  let z : List C := [.v (.int .i64 0), .v (.int .i64 0), .v (.int .i64 0), .v (.int .i64 0), .v (.int .i64 0)]
  refine loop_st (S := Nat) (fun i => [(0, DV (vGames l)), (3, DC (.sl 5 0 0 l.length)), (4, DV (vInt i))]) (fun i => [.cells (cOf eGame (l.take i) ++ manyC (l.length - i) z)]) (fun i => l.length - i) (fun i => i ≤ l.length) 0 (Nat.zero_le _)
    ⟨rfl, rfl, rfl, trivial⟩ rfl (Nat.zero_le _) ?_
  intro i hi
  simp -implicitDefEqProofs only [go_sem, ↓reduceIte, Nat.reduceEqDiff, Nat.reduceAdd, Nat.reduceLeDiff, vGames, vInt]
  refine condA_dec (fun h => ?_) (fun h => ?_)
  · have hlt : i < l.length := by omega
    simp -implicitDefEqProofs only [go_sem, ↓reduceIte, Nat.reduceEqDiff, Nat.reduceAdd, Nat.reduceLeDiff, List.getElem?_eq_getElem hlt]
    refine (toGame l[i]).callp (.vs _ .nil) ?_
    simp -implicitDefEqProofs only [go_sem, ↓reduceIte, Nat.reduceEqDiff, Nat.reduceAdd, Nat.reduceLeDiff]
    refine ⟨by omega, ?_⟩
    simp -implicitDefEqProofs only [go_sem, ↓reduceIte, Nat.reduceEqDiff, Nat.reduceAdd, Nat.reduceLeDiff, dGame]
    rw [part_len eGame 5 (fun _ => rfl) z rfl l i hi, if_pos (by have := lt_mul_of (sz := 5) hlt; omega), Nat.zero_add, put_next eGame 5 (fun _ => rfl) z rfl l i hlt]
    simp -implicitDefEqProofs only [go_sem, ↓reduceIte, Nat.reduceEqDiff, Nat.reduceAdd, Nat.reduceLeDiff, w64s (show i < 4611686018427387904 by omega)]
    exact next_of (i + 1) (by omega) (by omega) (Nat.zero_le _) ⟨rfl, rfl, rfl, trivial⟩ rfl
  · simp -implicitDefEqProofs only [go_sem, ↓reduceIte, Nat.reduceEqDiff, Nat.reduceAdd, Nat.reduceLeDiff]
    have : i = l.length := by omega
    subst this
    refine finK_refl (Nat.zero_le _) ⟨rfl, ?_⟩
    rw [List.take_length, Nat.sub_self]; simp [manyC]

def eInt (x : Int) : List V := [.int .i64 x]

theorem toIntS (l : List Int) (hl : l.length ≤ 1048576) : AFun Tryz.prog F.laws_toIntS [DV (vInts l)] [] fun d m => d = DC (.sl 1 0 0 l.length) ∧ m = [.cells (cOf eInt l)] := by
  refine AFun.intro k_laws_toIntS (by simp) ?_
  unfold c_laws_toIntS
  simp only [argE, Nat.reduceAdd]
  simp only [vInts]
  simp -implicitDefEqProofs only [go_sem, ↓reduceIte, Nat.reduceEqDiff, Nat.reduceAdd, Nat.reduceLeDiff]
  refine ⟨Int.le_refl _, by omega, by omega, ?_⟩
  let z : List C := [.v (.int .i64 0)]
  refine loop_st (S := Nat) (fun i => [(0, DV (vInts l)), (3, DC (.sl 1 0 0 l.length)), (4, DV (vInt i))]) (fun i => [.cells (cOf eInt (l.take i) ++ manyC (l.length - i) z)]) (fun i => l.length - i) (fun i => i ≤ l.length) 0 (Nat.zero_le _)
    ⟨rfl, rfl, rfl, trivial⟩ rfl (Nat.zero_le _) ?_
  intro i hi
  simp -implicitDefEqProofs only [go_sem, ↓reduceIte, Nat.reduceEqDiff, Nat.reduceAdd, Nat.reduceLeDiff, vInts, vInt]
  refine condA_dec (fun h => ?_) (fun h => ?_)
  · have hlt : i < l.length := by omega
    simp -implicitDefEqProofs only [go_sem, ↓reduceIte, Nat.reduceEqDiff, Nat.reduceAdd, Nat.reduceLeDiff, List.getElem?_eq_getElem hlt]
    refine ⟨by omega, ?_⟩
    have e1 := put_next eInt 1 (fun _ => rfl) z rfl l i hlt
    simp only [eInt, List.map_cons, List.map_nil, putCells_cons, putCells_nil] at e1
    rw [part_len eInt 1 (fun _ => rfl) z rfl l i hi, if_pos (by omega), Nat.zero_add]
    rw [e1]
    simp -implicitDefEqProofs only [go_sem, ↓reduceIte, Nat.reduceEqDiff, Nat.reduceAdd, Nat.reduceLeDiff, w64s (show i < 4611686018427387904 by omega)]
    exact next_of (i + 1) (by omega) (by omega) (Nat.zero_le _) ⟨rfl, rfl, rfl, trivial⟩ rfl
  · simp -implicitDefEqProofs only [go_sem, ↓reduceIte, Nat.reduceEqDiff, Nat.reduceAdd, Nat.reduceLeDiff]
    have : i = l.length := by omega
    subst this
    refine finK_refl (Nat.zero_le _) ⟨rfl, ?_⟩
    rw [List.take_length, Nat.sub_self]; simp [manyC]

theorem eqTeamS (a b : List Team) (ha : a.length < 4611686018427387904) : AFunD Tryz.prog F.laws_eqTeamS [DV (vTeams a), DV (vTeams b)] (DV (.bool (decide (a = b)))) := by
  refine AFunD.intro k_laws_eqTeamS (by simp) ?pure ?_
  case pure => first | exact D.pure_v _ | exact D.pure_vs _
  unfold c_laws_eqTeamS
  simp only [argE, Nat.reduceAdd]
  simp only [vTeams]
  simp -implicitDefEqProofs only [go_sem, ↓reduceIte, Nat.reduceEqDiff, Nat.reduceAdd, Nat.reduceLeDiff]
  refine condA_dec (fun h => ?_) (fun h => ?_)
  · simp -implicitDefEqProofs only [go_sem, ↓reduceIte, Nat.reduceEqDiff, Nat.reduceAdd, Nat.reduceLeDiff]
    exact finK_v ⟨by simp only [decide_eq_false (show ¬ a = b from fun e => h (by rw [e]))], rfl⟩
  · simp -implicitDefEqProofs only [go_sem, ↓reduceIte, Nat.reduceEqDiff, Nat.reduceAdd, Nat.reduceLeDiff]
    have hl : a.length = b.length := by omega
    refine loop_st (S := Nat) (fun i => [(0, DV (vTeams a)), (1, DV (vTeams b)), (5, DV (vInt i))]) (fun _ => []) (fun i => a.length - i) (fun i => i ≤ a.length ∧ a.take i = b.take i) 0 (Nat.zero_le _)
      ⟨rfl, rfl, rfl, trivial⟩ rfl ⟨Nat.zero_le _, rfl⟩ ?_
    rintro i ⟨hi, hp⟩
    simp -implicitDefEqProofs only [go_sem, ↓reduceIte, Nat.reduceEqDiff, Nat.reduceAdd, Nat.reduceLeDiff, vTeams, vInt]
    refine condA_dec (fun h => ?_) (fun h => ?_)
    · have hlt : i < a.length := by omega
      have hlt' : i < b.length := by omega
      simp -implicitDefEqProofs only [go_sem, ↓reduceIte, Nat.reduceEqDiff, Nat.reduceAdd, Nat.reduceLeDiff, List.getElem?_eq_getElem hlt, List.getElem?_eq_getElem hlt']
      refine (eqTeam a[i] b[i]).callp (.vs _ (.vs _ .nil)) ?_
      simp -implicitDefEqProofs only [go_sem, ↓reduceIte, Nat.reduceEqDiff, Nat.reduceAdd, Nat.reduceLeDiff]
      refine condA_of (fun h => ?_) (fun h => ?_)
      · simp -implicitDefEqProofs only [go_sem, ↓reduceIte, Nat.reduceEqDiff, Nat.reduceAdd, Nat.reduceLeDiff]
        exact finK_v ⟨by simp only [decide_eq_false (show ¬ a = b from fun e => by subst e; simp at h)], rfl⟩
      · simp -implicitDefEqProofs only [go_sem, ↓reduceIte, Nat.reduceEqDiff, Nat.reduceAdd, Nat.reduceLeDiff, w64s (show i < 4611686018427387904 by omega)]
        refine next_of (i + 1) (by omega) ⟨by omega, ?_⟩ (Nat.zero_le _) ⟨rfl, rfl, rfl, trivial⟩ rfl
        have : a[i] = b[i] := by simpa using h
        rw [List.take_succ_eq_append_getElem hlt, List.take_succ_eq_append_getElem hlt', hp, this]
    · simp -implicitDefEqProofs only [go_sem, ↓reduceIte, Nat.reduceEqDiff, Nat.reduceAdd, Nat.reduceLeDiff]
      refine finK_v ⟨?_, rfl⟩
      have : i = a.length := by omega
      subst this
      have : a = b := by rw [List.take_length] at hp; rw [hp, hl, List.take_length]
      simp [this]

theorem eqGameS (a b : List Game) (ha : a.length < 4611686018427387904) : AFunD Tryz.prog F.laws_eqGameS [DV (vGames a), DV (vGames b)] (DV (.bool (decide (a = b)))) := by
  refine AFunD.intro k_laws_eqGameS (by simp) ?pure ?_
  case pure => first | exact D.pure_v _ | exact D.pure_vs _
  unfold c_laws_eqGameS
  simp only [argE, Nat.reduceAdd]
  simp only [vGames]
  simp -implicitDefEqProofs only [go_sem, ↓reduceIte, Nat.reduceEqDiff, Nat.reduceAdd, Nat.reduceLeDiff]
  refine condA_dec (fun h => ?_) (fun h => ?_)
  · simp -implicitDefEqProofs only [go_sem, ↓reduceIte, Nat.reduceEqDiff, Nat.reduceAdd, Nat.reduceLeDiff]
    exact finK_v ⟨by simp only [decide_eq_false (show ¬ a = b from fun e => h (by rw [e]))], rfl⟩
  · simp -implicitDefEqProofs only [go_sem, ↓reduceIte, Nat.reduceEqDiff, Nat.reduceAdd, Nat.reduceLeDiff]
    have hl : a.length = b.length := by omega
    refine loop_st (S := Nat) (fun i => [(0, DV (vGames a)), (1, DV (vGames b)), (5, DV (vInt i))]) (fun _ => []) (fun i => a.length - i) (fun i => i ≤ a.length ∧ a.take i = b.take i) 0 (Nat.zero_le _)
      ⟨rfl, rfl, rfl, trivial⟩ rfl ⟨Nat.zero_le _, rfl⟩ ?_
    rintro i ⟨hi, hp⟩
    simp -implicitDefEqProofs only [go_sem, ↓reduceIte, Nat.reduceEqDiff, Nat.reduceAdd, Nat.reduceLeDiff, vGames, vInt]
    refine condA_dec (fun h => ?_) (fun h => ?_)
    · have hlt : i < a.length := by omega
      have hlt' : i < b.length := by omega
      simp -implicitDefEqProofs only [go_sem, ↓reduceIte, Nat.reduceEqDiff, Nat.reduceAdd, Nat.reduceLeDiff, List.getElem?_eq_getElem hlt, List.getElem?_eq_getElem hlt']
      refine (eqGame a[i] b[i]).callp (.vs _ (.vs _ .nil)) ?_
      simp -implicitDefEqProofs only [go_sem, ↓reduceIte, Nat.reduceEqDiff, Nat.reduceAdd, Nat.reduceLeDiff]
      refine condA_of (fun h => ?_) (fun h => ?_)
      · simp -implicitDefEqProofs only [go_sem, ↓reduceIte, Nat.reduceEqDiff, Nat.reduceAdd, Nat.reduceLeDiff]
        exact finK_v ⟨by simp only [decide_eq_false (show ¬ a = b from fun e => by subst e; simp at h)], rfl⟩
      · simp -implicitDefEqProofs only [go_sem, ↓reduceIte, Nat.reduceEqDiff, Nat.reduceAdd, Nat.reduceLeDiff, w64s (show i < 4611686018427387904 by omega)]
        refine next_of (i + 1) (by omega) ⟨by omega, ?_⟩ (Nat.zero_le _) ⟨rfl, rfl, rfl, trivial⟩ rfl
        have : a[i] = b[i] := by simpa using h
        rw [List.take_succ_eq_append_getElem hlt, List.take_succ_eq_append_getElem hlt', hp, this]
    · simp -implicitDefEqProofs only [go_sem, ↓reduceIte, Nat.reduceEqDiff, Nat.reduceAdd, Nat.reduceLeDiff]
      refine finK_v ⟨?_, rfl⟩
      have : i = a.length := by omega
      subst this
      have : a = b := by rw [List.take_length] at hp; rw [hp, hl, List.take_length]
      simp [this]

theorem eqBook (a b : Book) (h1 : a.field.length < 4611686018427387904) (h2 : a.rules.ladder.length < 4611686018427387904) (h3 : a.games.length < 4611686018427387904) (h4 : a.fair.length < 4611686018427387904) (h5 : a.taken.length < 4611686018427387904) :
    AFunD Tryz.prog F.laws_eqBook [dBook a, dBook b] (DV (.bool (decide (a = b)))) := by
  refine AFunD.intro k_laws_eqBook (by simp) ?pure ?_
  case pure => first | exact D.pure_v _ | exact D.pure_vs _
  unfold c_laws_eqBook
  simp only [argE, Nat.reduceAdd]
  simp only [dBook, eBook, eRules]
  simp -implicitDefEqProofs only [go_sem, ↓reduceIte, Nat.reduceEqDiff, Nat.reduceAdd, Nat.reduceLeDiff]
  refine (eqTeamS a.field b.field h1).callp (.v _ (.v _ .nil)) ?_
  simp -implicitDefEqProofs only [go_sem, ↓reduceIte, Nat.reduceEqDiff, Nat.reduceAdd, Nat.reduceLeDiff]
  refine condA_of (fun h => ?_) (fun h => ?_)
  · simp -implicitDefEqProofs only [go_sem, ↓reduceIte, Nat.reduceEqDiff, Nat.reduceAdd, Nat.reduceLeDiff]
    exact finK_v ⟨by simp only [decide_eq_false (show ¬ a = b from fun e => by subst e; simp at h)], rfl⟩
  simp -implicitDefEqProofs only [go_sem, ↓reduceIte, Nat.reduceEqDiff, Nat.reduceAdd, Nat.reduceLeDiff]
  refine (eqRules a.rules b.rules h2).callp (.vs _ (.vs _ .nil)) ?_
  simp -implicitDefEqProofs only [go_sem, ↓reduceIte, Nat.reduceEqDiff, Nat.reduceAdd, Nat.reduceLeDiff]
  refine condA_of (fun h => ?_) (fun h => ?_)
  · simp -implicitDefEqProofs only [go_sem, ↓reduceIte, Nat.reduceEqDiff, Nat.reduceAdd, Nat.reduceLeDiff]
    exact finK_v ⟨by simp only [decide_eq_false (show ¬ a = b from fun e => by subst e; simp at h)], rfl⟩
  simp -implicitDefEqProofs only [go_sem, ↓reduceIte, Nat.reduceEqDiff, Nat.reduceAdd, Nat.reduceLeDiff]
  refine (eqGameS a.games b.games h3).callp (.v _ (.v _ .nil)) ?_
  simp -implicitDefEqProofs only [go_sem, ↓reduceIte, Nat.reduceEqDiff, Nat.reduceAdd, Nat.reduceLeDiff]
  refine condA_of (fun h => ?_) (fun h => ?_)
  · simp -implicitDefEqProofs only [go_sem, ↓reduceIte, Nat.reduceEqDiff, Nat.reduceAdd, Nat.reduceLeDiff]
    exact finK_v ⟨by simp only [decide_eq_false (show ¬ a = b from fun e => by subst e; simp at h)], rfl⟩
  simp -implicitDefEqProofs only [go_sem, ↓reduceIte, Nat.reduceEqDiff, Nat.reduceAdd, Nat.reduceLeDiff]
  refine (eqIntS a.fair b.fair h4).callp (.v _ (.v _ .nil)) ?_
  simp -implicitDefEqProofs only [go_sem, ↓reduceIte, Nat.reduceEqDiff, Nat.reduceAdd, Nat.reduceLeDiff]
  refine condA_of (fun h => ?_) (fun h => ?_)
  · simp -implicitDefEqProofs only [go_sem, ↓reduceIte, Nat.reduceEqDiff, Nat.reduceAdd, Nat.reduceLeDiff]
    exact finK_v ⟨by simp only [decide_eq_false (show ¬ a = b from fun e => by subst e; simp at h)], rfl⟩
  simp -implicitDefEqProofs only [go_sem, ↓reduceIte, Nat.reduceEqDiff, Nat.reduceAdd, Nat.reduceLeDiff]
  refine (eqIntS a.taken b.taken h5).callp (.v _ (.v _ .nil)) ?_
  simp -implicitDefEqProofs only [go_sem, ↓reduceIte, Nat.reduceEqDiff, Nat.reduceAdd, Nat.reduceLeDiff]
  refine condA_of (fun h => ?_) (fun h => ?_)
  · simp -implicitDefEqProofs only [go_sem, ↓reduceIte, Nat.reduceEqDiff, Nat.reduceAdd, Nat.reduceLeDiff]
    exact finK_v ⟨by simp only [decide_eq_false (show ¬ a = b from fun e => by subst e; simp at h)], rfl⟩
  simp -implicitDefEqProofs only [go_sem, ↓reduceIte, Nat.reduceEqDiff, Nat.reduceAdd, Nat.reduceLeDiff]
  refine finK_v ⟨?_, rfl⟩
  have : a = b := by cases a; cases b; simp_all
  simp [this]

end Go.Proofs.YtneiicadhjdbiaaGreat.Ab

namespace Go.Proofs.YtneiicadhjdbiaaGreat.Ab
open Go

theorem AFun.callp {P : Program} {m : List Blk} {K : D → List Blk → Prop} {Q0 : D → List Blk → Prop} {f : Nat} {ds : List D} {g : Bool} (h : AFun P f ds [] Q0) (hv : Pures ds) (hq : ∀ d m', Q0 d m' → K (shD m.length d) (m ++ m'.map (shB m.length))) : AFunG P g f ds m K :=
  AFunG.frame (br := false) h hv.vws fun d m' hd => ⟨fun h => (by cases h), hq d m' hd⟩

theorem shD_sl (n sz id off len : Nat) : shD n (DC (.sl sz id off len)) = DC (.sl sz (id + n) off len) := rfl
theorem shD_agg (n : Nat) (cs : List C) : shD n (DA cs) = DA (cs.map (shC n)) := rfl
theorem shC_v (n : Nat) (y : V) : shC n (.v y) = .v y := rfl
theorem shC_sl (n sz id off len : Nat) : shC n (.sl sz id off len) = .sl sz (id + n) off len := rfl
theorem shB_cells (n : Nat) (cs : List C) : shB n (.cells cs) = .cells (cs.map (shC n)) := rfl
theorem shC_cOf {α : Type} (n : Nat) (f : α → List V) (l : List α) : (cOf f l).map (shC n) = cOf f l := by
  unfold cOf; rw [List.map_map]; rfl
theorem dvi {a b : Int} (h : a = b) : DV (vInt a) = DV (vInt b) := by rw [h]
attribute [go_sem] shD_sl shD_agg shC_v shC_sl shB_cells shC_cOf

theorem szTeam (t : Team) (k : Int) (hk : 0 ≤ k) (hk' : k ≤ 1048576) (ht : t.name.length < 4611686018427387904) : AFunD Tryz.prog F.laws_szTeam [dTeam t, DV (vInt k)] (DV (vInt (if k < t.name.length then -1 else k - t.name.length))) := by
  refine AFunD.intro k_laws_szTeam (by simp) ?pure ?_
  case pure => first | exact D.pure_v _ | exact D.pure_vs _
  unfold c_laws_szTeam
  simp only [argE, Nat.reduceAdd]
  simp only [dTeam, eTeam]
  simp -implicitDefEqProofs only [go_sem, ↓reduceIte, Nat.reduceEqDiff, Nat.reduceAdd, Nat.reduceLeDiff]
  rw [w64 (by omega) (by omega)]
  refine condA_dec (fun h => ?_) (fun h => ?_)
  · simp -implicitDefEqProofs only [go_sem, ↓reduceIte, Nat.reduceEqDiff, Nat.reduceAdd, Nat.reduceLeDiff]
    exact finK_v ⟨by rw [if_pos (by omega)], rfl⟩
  · simp -implicitDefEqProofs only [go_sem, ↓reduceIte, Nat.reduceEqDiff, Nat.reduceAdd, Nat.reduceLeDiff]
    exact finK_v ⟨by rw [if_neg (by omega)], rfl⟩

theorem szGameS (a : List Game) (k : Int) (hk : 0 ≤ k) (hk' : k ≤ 1048576) (ha : a.length < 4611686018427387904) : AFunD Tryz.prog F.laws_szGameS [DV (vGames a), DV (vInt k)] (DV (vInt (if k < a.length then -1 else k - a.length))) := by
  refine AFunD.intro k_laws_szGameS (by simp) ?pure ?_
  case pure => first | exact D.pure_v _ | exact D.pure_vs _
  unfold c_laws_szGameS
  simp only [argE, Nat.reduceAdd]
  simp only [vGames]
  simp -implicitDefEqProofs only [go_sem, ↓reduceIte, Nat.reduceEqDiff, Nat.reduceAdd, Nat.reduceLeDiff]
  rw [w64 (by omega) (by omega)]
  refine condA_dec (fun h => ?_) (fun h => ?_)
  · simp -implicitDefEqProofs only [go_sem, ↓reduceIte, Nat.reduceEqDiff, Nat.reduceAdd, Nat.reduceLeDiff]
    exact finK_v ⟨by rw [if_pos (by omega)], rfl⟩
  · simp -implicitDefEqProofs only [go_sem, ↓reduceIte, Nat.reduceEqDiff, Nat.reduceAdd, Nat.reduceLeDiff]
    exact finK_v ⟨by rw [if_neg (by omega)], rfl⟩

theorem szRules (u : Rules) (k : Int) (hk : 0 ≤ k) (hk' : k ≤ 1048576) (ha : u.ladder.length < 4611686018427387904) : AFunD Tryz.prog F.laws_szRules [dRules u, DV (vInt k)] (DV (vInt (if k < u.ladder.length then -1 else k - u.ladder.length))) := by
  refine AFunD.intro k_laws_szRules (by simp) ?pure ?_
  case pure => first | exact D.pure_v _ | exact D.pure_vs _
  unfold c_laws_szRules
  simp only [argE, Nat.reduceAdd]
  simp only [dRules, eRules]
  simp -implicitDefEqProofs only [go_sem, ↓reduceIte, Nat.reduceEqDiff, Nat.reduceAdd, Nat.reduceLeDiff]
  refine (szIntS u.ladder k hk hk' ha).callp (.v _ (.v _ .nil)) ?_
  simp -implicitDefEqProofs only [go_sem, ↓reduceIte, Nat.reduceEqDiff, Nat.reduceAdd, Nat.reduceLeDiff]
  refine condA_dec (fun h => ?_) (fun h => ?_)
  · simp -implicitDefEqProofs only [go_sem, ↓reduceIte, Nat.reduceEqDiff, Nat.reduceAdd, Nat.reduceLeDiff]
    refine finK_v ⟨?_, rfl⟩
    split at h
    · rename_i h1; rw [if_pos h1]
    · omega
  · simp -implicitDefEqProofs only [go_sem, ↓reduceIte, Nat.reduceEqDiff, Nat.reduceAdd, Nat.reduceLeDiff]
    exact finK_v ⟨rfl, rfl⟩

def szT (l : List Team) : Nat := l.length + (l.map fun t => t.name.length).sum

theorem szTeamS (l : List Team) (k : Int) (hk : 0 ≤ k) (hk' : k ≤ 1048576) (ha : l.length < 4611686018427387904) (hn : ∀ t ∈ l, t.name.length < 4611686018427387904) :
    AFunD Tryz.prog F.laws_szTeamS [DV (vTeams l), DV (vInt k)] (DV (vInt (if k < szT l then -1 else k - szT l))) := by
  refine AFunD.intro k_laws_szTeamS (by simp) ?pure ?_
  case pure => first | exact D.pure_v _ | exact D.pure_vs _
  unfold c_laws_szTeamS
  simp only [argE, Nat.reduceAdd]
  simp only [vTeams]
  simp -implicitDefEqProofs only [go_sem, ↓reduceIte, Nat.reduceEqDiff, Nat.reduceAdd, Nat.reduceLeDiff]
  rw [w64 (by omega) (by omega)]
  refine condA_dec (fun h => ?_) (fun h => ?_)
  · simp -implicitDefEqProofs only [go_sem, ↓reduceIte, Nat.reduceEqDiff, Nat.reduceAdd, Nat.reduceLeDiff]
    exact finK_v ⟨by rw [if_pos (by simp only [szT]; omega)], rfl⟩
  · simp -implicitDefEqProofs only [go_sem, ↓reduceIte, Nat.reduceEqDiff, Nat.reduceAdd, Nat.reduceLeDiff]
    let S (i : Nat) : Nat := ((l.take i).map fun t => t.name.length).sum
    refine loop_st (S := Nat) (fun i => [(0, DV (vTeams l)), (1, DV (vInt (k - l.length - S i))), (5, DV (vInt i))]) (fun _ => []) (fun i => l.length - i) (fun i => i ≤ l.length ∧ 0 ≤ k - l.length - S i) 0 (Nat.zero_le _)
      ⟨rfl, by simp [S, get], rfl, trivial⟩ rfl ⟨Nat.zero_le _, by simp [S]; omega⟩ ?_
    rintro i ⟨hi, hp⟩
    simp -implicitDefEqProofs only [go_sem, ↓reduceIte, Nat.reduceEqDiff, Nat.reduceAdd, Nat.reduceLeDiff, vTeams, vInt]
    refine condA_dec (fun h => ?_) (fun h => ?_)
    · have hlt : i < l.length := by omega
      have hmem : l[i] ∈ l := List.getElem_mem hlt
      have hS : S (i + 1) = S i + l[i].name.length := by
        simp only [S, List.take_succ_eq_append_getElem hlt, List.map_append, List.sum_append, List.map_cons, List.map_nil, List.sum_cons, List.sum_nil, Nat.add_zero]
      have hSl : S (i + 1) ≤ (l.map fun t => t.name.length).sum := by
        have : l = l.take (i + 1) ++ l.drop (i + 1) := (List.take_append_drop _ _).symm
        conv => rhs; rw [this]
        rw [List.map_append, List.sum_append]; exact Nat.le_add_right _ _
      simp -implicitDefEqProofs only [go_sem, ↓reduceIte, Nat.reduceEqDiff, Nat.reduceAdd, Nat.reduceLeDiff, List.getElem?_eq_getElem hlt]
      refine (szTeam l[i] (k - l.length - S i) hp (by omega) (hn _ hmem)).callp (.vs _ (.v _ .nil)) ?_
      simp -implicitDefEqProofs only [go_sem, ↓reduceIte, Nat.reduceEqDiff, Nat.reduceAdd, Nat.reduceLeDiff]
      refine condA_dec (fun h => ?_) (fun h => ?_)
      · simp -implicitDefEqProofs only [go_sem, ↓reduceIte, Nat.reduceEqDiff, Nat.reduceAdd, Nat.reduceLeDiff]
        refine finK_v ⟨?_, rfl⟩
        split at h
        · rename_i h1; rw [if_pos (by simp only [szT]; omega)]
        · omega
      · have h1 : ¬ (k - l.length - S i < l[i].name.length) := by
          intro h1; rw [if_pos h1] at h; omega
        simp -implicitDefEqProofs only [go_sem, ↓reduceIte, Nat.reduceEqDiff, Nat.reduceAdd, Nat.reduceLeDiff, w64s (show i < 4611686018427387904 by omega), if_neg h1]
        refine next_of (i + 1) (by omega) ⟨by omega, by rw [hS]; omega⟩ (Nat.zero_le _) ⟨rfl, ?_, rfl, trivial⟩ rfl
        refine dvi ?_
        rw [hS]
        omega
    · simp -implicitDefEqProofs only [go_sem, ↓reduceIte, Nat.reduceEqDiff, Nat.reduceAdd, Nat.reduceLeDiff]
      have : i = l.length := by omega
      subst this
      have : S l.length = (l.map fun t => t.name.length).sum := by simp only [S, List.take_length]
      refine finK_v ⟨dvi ?_, rfl⟩
      rw [this] at hp ⊢
      rw [if_neg (by simp only [szT]; omega)]
      simp only [szT]; omega

def szB (b : Book) : Nat := szT b.field + b.rules.ladder.length + b.games.length + b.fair.length + b.taken.length

/-- What bounds a book's parts at all. -/
structure Fits (b : Book) : Prop where
  field : b.field.length < 4611686018427387904
  names : ∀ t ∈ b.field, t.name.length < 4611686018427387904
  ladder : b.rules.ladder.length < 4611686018427387904
  games : b.games.length < 4611686018427387904
  fair : b.fair.length < 4611686018427387904
  taken : b.taken.length < 4611686018427387904

theorem szBook (b : Book) (k : Int) (hk : 0 ≤ k) (hk' : k ≤ 1048576) (hb : Fits b) : AFunD Tryz.prog F.laws_szBook [dBook b, DV (vInt k)] (DV (vInt (if k < szB b then -1 else k - szB b))) := by
  refine AFunD.intro k_laws_szBook (by simp) ?pure ?_
  case pure => first | exact D.pure_v _ | exact D.pure_vs _
  unfold c_laws_szBook
  simp only [argE, Nat.reduceAdd]
  simp only [dBook, eBook, eRules]
  simp -implicitDefEqProofs only [go_sem, ↓reduceIte, Nat.reduceEqDiff, Nat.reduceAdd, Nat.reduceLeDiff]
  refine (szTeamS b.field k hk hk' hb.field hb.names).callp (.v _ (.v _ .nil)) ?_
  simp -implicitDefEqProofs only [go_sem, ↓reduceIte, Nat.reduceEqDiff, Nat.reduceAdd, Nat.reduceLeDiff]
  refine condA_dec (fun h => ?_) (fun h => ?_)
  · simp -implicitDefEqProofs only [go_sem, ↓reduceIte, Nat.reduceEqDiff, Nat.reduceAdd, Nat.reduceLeDiff]
    refine finK_v ⟨?_, rfl⟩
    split at h
    · rename_i h1; rw [if_pos (by simp only [szB]; omega)]
    · omega
  have h1 : ¬ k < szT b.field := fun h1 => by rw [if_pos h1] at h; omega
  simp -implicitDefEqProofs only [go_sem, ↓reduceIte, Nat.reduceEqDiff, Nat.reduceAdd, Nat.reduceLeDiff, if_neg h1]
  refine (szRules b.rules (k - szT b.field) (by omega) (by omega) hb.ladder).callp (.vs _ (.v _ .nil)) ?_
  simp -implicitDefEqProofs only [go_sem, ↓reduceIte, Nat.reduceEqDiff, Nat.reduceAdd, Nat.reduceLeDiff]
  refine condA_dec (fun h => ?_) (fun h => ?_)
  · simp -implicitDefEqProofs only [go_sem, ↓reduceIte, Nat.reduceEqDiff, Nat.reduceAdd, Nat.reduceLeDiff]
    refine finK_v ⟨?_, rfl⟩
    split at h
    · rename_i h1; rw [if_pos (by simp only [szB]; omega)]
    · omega
  have h2 : ¬ k - szT b.field < b.rules.ladder.length := fun h1 => by rw [if_pos h1] at h; omega
  simp -implicitDefEqProofs only [go_sem, ↓reduceIte, Nat.reduceEqDiff, Nat.reduceAdd, Nat.reduceLeDiff, if_neg h2]
  refine (szGameS b.games (k - szT b.field - b.rules.ladder.length) (by omega) (by omega) hb.games).callp (.v _ (.v _ .nil)) ?_
  simp -implicitDefEqProofs only [go_sem, ↓reduceIte, Nat.reduceEqDiff, Nat.reduceAdd, Nat.reduceLeDiff]
  refine condA_dec (fun h => ?_) (fun h => ?_)
  · simp -implicitDefEqProofs only [go_sem, ↓reduceIte, Nat.reduceEqDiff, Nat.reduceAdd, Nat.reduceLeDiff]
    refine finK_v ⟨?_, rfl⟩
    split at h
    · rename_i h1; rw [if_pos (by simp only [szB]; omega)]
    · omega
  have h3 : ¬ k - szT b.field - b.rules.ladder.length < b.games.length := fun h1 => by rw [if_pos h1] at h; omega
  simp -implicitDefEqProofs only [go_sem, ↓reduceIte, Nat.reduceEqDiff, Nat.reduceAdd, Nat.reduceLeDiff, if_neg h3]
  refine (szIntS b.fair (k - szT b.field - b.rules.ladder.length - b.games.length) (by omega) (by omega) hb.fair).callp (.v _ (.v _ .nil)) ?_
  simp -implicitDefEqProofs only [go_sem, ↓reduceIte, Nat.reduceEqDiff, Nat.reduceAdd, Nat.reduceLeDiff]
  refine condA_dec (fun h => ?_) (fun h => ?_)
  · simp -implicitDefEqProofs only [go_sem, ↓reduceIte, Nat.reduceEqDiff, Nat.reduceAdd, Nat.reduceLeDiff]
    refine finK_v ⟨?_, rfl⟩
    split at h
    · rename_i h1; rw [if_pos (by simp only [szB]; omega)]
    · omega
  have h4 : ¬ k - szT b.field - b.rules.ladder.length - b.games.length < b.fair.length := fun h1 => by rw [if_pos h1] at h; omega
  simp -implicitDefEqProofs only [go_sem, ↓reduceIte, Nat.reduceEqDiff, Nat.reduceAdd, Nat.reduceLeDiff, if_neg h4]
  refine (szIntS b.taken (k - szT b.field - b.rules.ladder.length - b.games.length - b.fair.length) (by omega) (by omega) hb.taken).callp (.v _ (.v _ .nil)) ?_
  simp -implicitDefEqProofs only [go_sem, ↓reduceIte, Nat.reduceEqDiff, Nat.reduceAdd, Nat.reduceLeDiff]
  refine condA_dec (fun h => ?_) (fun h => ?_)
  · simp -implicitDefEqProofs only [go_sem, ↓reduceIte, Nat.reduceEqDiff, Nat.reduceAdd, Nat.reduceLeDiff]
    refine finK_v ⟨?_, rfl⟩
    split at h
    · rename_i h1; rw [if_pos (by simp only [szB]; omega)]
    · omega
  have h5 : ¬ k - szT b.field - b.rules.ladder.length - b.games.length - b.fair.length < b.taken.length := fun h1 => by rw [if_pos h1] at h; omega
  simp -implicitDefEqProofs only [go_sem, ↓reduceIte, Nat.reduceEqDiff, Nat.reduceAdd, Nat.reduceLeDiff, if_neg h5]
  refine finK_v ⟨dvi ?_, rfl⟩
  rw [if_neg (by simp only [szB]; omega)]
  simp only [szB]; omega

end Go.Proofs.YtneiicadhjdbiaaGreat.Ab

namespace Go.Proofs.YtneiicadhjdbiaaGreat.Ab
open Go

theorem renC_id (x : C) : renC id x = x := by
  cases x <;> simp [renC]
theorem leC_id (x : C) : LeC id x x := .inr (renC_id x)
theorem leCs_id : ∀ (l : List C), LeCs id l l
  | [] => trivial
  | x :: r => ⟨leC_id x, leCs_id r⟩
theorem leT_id : ∀ (x : T), LeT id x x
  | .c x => leC_id x
  | .agg cs => ⟨rfl, leCs_id cs⟩
theorem leTs_id : ∀ (l : List T), LeTs id l l
  | [] => trivial
  | x :: r => ⟨leT_id x, leTs_id r⟩
theorem leD_id : ∀ (d : D), LeD id d d
  | .t x => leT_id x
  | .tup xs => leTs_id xs
  | .und => trivial
  | .any => trivial

def ltE (k : Nat) : Env → Prop
  | [] => True
  | (_, d) :: r => d.lt k ∧ ltE k r

theorem leE_of {k : Nat} : ∀ {e' e : Env}, subE e' e → ltE k e' → LeE id k e' e
  | [], _, _, _ => trivial
  | (t, d) :: r, e, h, hl => ⟨⟨hl.1, by rw [h.1]; exact leD_id d⟩, leE_of h.2 hl.2⟩

/-- What was made since is let go. -/
theorem Wk.drop {n0 : Nat} {e e' : Env} {mem ex : List Blk} (hw : WfM mem) (hn : n0 ≤ mem.length) (he : subE e' e) (hlt : ltE mem.length e') : Wk n0 e (mem ++ ex) e' mem :=
  Wk.ren (ρ := id) ⟨fun _ _ => rfl, fun _ _ _ _ h => h, fun i b' hb => ⟨b', by rw [id, List.getElem?_append_left (List.getElem?_eq_some_iff.1 hb).1]; exact hb, by
    cases b' with
    | hole => trivial
    | cells cs => exact ⟨hw i cs hb, leCs_id cs⟩⟩, hn⟩ (leE_of he hlt)

theorem next_drop {n0 : Nat} {e : Env} {m : List Blk} {S : Type} {E : S → Env} {M : S → List Blk} {ms : S → Nat} {inv : S → Prop} {s : S} (s' : S) (ex : List Blk) (hms : ms s' < ms s) (hinv : inv s') (hw : WfM (M s')) (hn : n0 ≤ (M s').length) (he : subE (E s') e) (hlt : ltE (M s').length (E s')) (hm : m = M s' ++ ex) : nextK n0 E M ms inv s e m := by
  subst hm; exact ⟨s', hms, hinv, Wk.drop hw hn he hlt⟩

def digs (k : Nat) (acc : List UInt8) : List UInt8 := if h : k = 0 then acc else digs (k / 10) (UInt8.ofNat (48 + k % 10) :: acc)
  termination_by k
  decreasing_by omega

def markT (k : Nat) : List UInt8 := 109 :: digs k []

theorem markText (k : Nat) (h0 : 0 < k) (hk : k < 4611686018427387904) : AFunD Tryz.prog F.laws_markText [DV (vInt k)] (DV (.str (markT k))) := by
  refine AFunD.intro k_laws_markText (by simp) ?pure ?_
  case pure => first | exact D.pure_v _ | exact D.pure_vs _
  unfold c_laws_markText
  simp only [argE, Nat.reduceAdd]
  simp -implicitDefEqProofs only [go_sem, ↓reduceIte, Nat.reduceEqDiff, Nat.reduceAdd, Nat.reduceLeDiff]
  refine condA_dec (fun h => ?_) (fun h => ?_)
  · omega
  simp -implicitDefEqProofs only [go_sem, ↓reduceIte, Nat.reduceEqDiff, Nat.reduceAdd, Nat.reduceLeDiff]
  refine loop_st (S := Nat × List UInt8) (fun s => [(0, DV (vInt s.1)), (3, DV (.str s.2))]) (fun _ => []) (fun s => s.1) (fun s => digs s.1 s.2 = digs k [] ∧ s.2.length + s.1 ≤ k) (k, []) (Nat.zero_le _)
    ⟨rfl, rfl, trivial⟩ rfl ⟨rfl, by simp⟩ ?_
  rintro ⟨j, acc⟩ ⟨hd, hl⟩
  simp only at hd hl
  simp -implicitDefEqProofs only [go_sem, ↓reduceIte, Nat.reduceEqDiff, Nat.reduceAdd, Nat.reduceLeDiff, vInt]
  refine condA_dec (fun h => ?_) (fun h => ?_)
  · simp -implicitDefEqProofs only [go_sem, ↓reduceIte, Nat.reduceEqDiff, Nat.reduceAdd, Nat.reduceLeDiff, bin2_rem IntKind.i64 (j : Int) 10 (by omega), bin2_quo IntKind.i64 (j : Int) 10 (by omega)]
    have e1 : (IntKind.u8.wrap (IntKind.i64.wrap (48 + (j : Int).tmod 10))) = ((48 + j % 10 : Nat) : Int) := by
      have h1 : (j : Int).tmod 10 = ((j % 10 : Nat) : Int) := by rw [Int.tmod_eq_emod_of_nonneg (by omega)]; omega
      rw [h1, w64 (by omega) (by omega)]
      simp only [IntKind.wrap, IntKind.bits, IntKind.signed]; simp; omega
    have e2 : IntKind.i64.wrap ((j : Int).tdiv 10) = ((j / 10 : Nat) : Int) := by
      have h1 : (j : Int).tdiv 10 = ((j / 10 : Nat) : Int) := by rw [Int.tdiv_eq_ediv_of_nonneg (by omega)]; omega
      rw [h1, w64 (by omega) (by omega)]
    have hd' : digs (j / 10) (UInt8.ofNat (48 + j % 10) :: acc) = digs k [] := by
      rw [← hd]; conv => rhs; unfold digs
      rw [dif_neg (by omega)]
    rw [e1, e2]
    simp -implicitDefEqProofs only [go_sem, ↓reduceIte, Nat.reduceEqDiff, Nat.reduceAdd, Nat.reduceLeDiff]
    refine ⟨by omega, ?_⟩
    exact next_drop (j / 10, UInt8.ofNat (48 + j % 10) :: acc) _ (by simp only; omega) ⟨hd', by simp only [List.length_cons]; omega⟩ WfM.nil (Nat.zero_le _) ⟨rfl, rfl, trivial⟩ ⟨trivial, trivial, trivial⟩ rfl
  · simp -implicitDefEqProofs only [go_sem, ↓reduceIte, Nat.reduceEqDiff, Nat.reduceAdd, Nat.reduceLeDiff]
    have : j = 0 := by omega
    subst this
    refine ⟨by omega, finK_v ⟨?_, rfl⟩⟩
    rw [markT, ← hd]; unfold digs; rw [dif_pos rfl]

end Go.Proofs.YtneiicadhjdbiaaGreat.Ab

namespace Go.Proofs.YtneiicadhjdbiaaGreat.Ab
open Go

theorem put_mid {α : Type} (f : α → List V) (sz : Nat) (hf : ∀ x, (f x).length = sz) (A : List α) (x y : α) (r : List α) :
    putCells (cOf f (A ++ x :: r)) (A.length * sz) ((f y).map .v) = cOf f (A ++ y :: r) := by
  have e : ∀ z, cOf f (A ++ z :: r) = cOf f A ++ ((f z).map .v ++ cOf f r) := fun z => by
    rw [show A ++ z :: r = A ++ ([z] ++ r) by simp, cOf_append, cOf_append, cOf_one]
  rw [e, e, ← flat_len f sz hf A]
  exact putCells_at _ _ _ _ (by simp [hf])

def marksI (k n : Nat) : List Int := (List.range n).map fun i => ((k + i : Nat) : Int)
def mTeam (k i : Nat) : Team := ⟨markT (k + 3 * i), ((k + 3 * i + 1 : Nat) : Int), ((k + 3 * i + 2 : Nat) : Int)⟩
def marksT (k n : Nat) : List Team := (List.range n).map (mTeam k)
def mGame (k i : Nat) : Game := ⟨((k + 5 * i : Nat) : Int), ((k + 5 * i + 1 : Nat) : Int), ((k + 5 * i + 2 : Nat) : Int), ((k + 5 * i + 3 : Nat) : Int), ((k + 5 * i + 4 : Nat) : Int)⟩
def marksG (k n : Nat) : List Game := (List.range n).map (mGame k)

theorem marksI_succ (k n : Nat) : marksI k (n + 1) = marksI k n ++ [((k + n : Nat) : Int)] := by simp [marksI, List.range_succ]
theorem marksT_succ (k n : Nat) : marksT k (n + 1) = marksT k n ++ [mTeam k n] := by simp [marksT, List.range_succ]
theorem marksG_succ (k n : Nat) : marksG k (n + 1) = marksG k n ++ [mGame k n] := by simp [marksG, List.range_succ]

theorem next_mark {α : Type} (f : α → List V) (sz : Nat) (hf : ∀ x, (f x).length = sz) (mk : Nat → List α) (y : Nat → α) (hs : ∀ n, mk (n + 1) = mk n ++ [y n]) (hl : ∀ n, (mk n).length = n) (l : List α) (i : Nat) (hi : i < l.length) :
    putCells (cOf f (mk i ++ l.drop i)) (i * sz) ((f (y i)).map .v) = cOf f (mk (i + 1) ++ l.drop (i + 1)) := by
  have := put_mid f sz hf (mk i) l[i] (y i) (l.drop (i + 1))
  rw [hl i] at this
  rw [List.drop_eq_getElem_cons hi, this, hs]; simp

theorem mid_len {α : Type} (f : α → List V) (sz : Nat) (hf : ∀ x, (f x).length = sz) (mk : Nat → List α) (hl : ∀ n, (mk n).length = n) (l : List α) (i : Nat) (hi : i ≤ l.length) : (cOf f (mk i ++ l.drop i)).length = l.length * sz := by
  rw [flat_len f sz hf, List.length_append, hl, List.length_drop]; congr 1; omega

theorem markIntS (l : List Int) (k : Nat) (h : k + l.length < 4611686018427387904) : AFun Tryz.prog F.laws_markIntS [DC (.sl 1 0 0 l.length), DV (vInt k)] [.cells (cOf eInt l)] fun d m => d = DV (vInt ((k + l.length : Nat) : Int)) ∧ m = [.cells (cOf eInt (marksI k l.length))] := by
  refine AFun.intro k_laws_markIntS (by simp) ?_
  unfold c_laws_markIntS
  simp only [argE, Nat.reduceAdd]
  simp -implicitDefEqProofs only [go_sem, ↓reduceIte, Nat.reduceEqDiff, Nat.reduceAdd, Nat.reduceLeDiff]
  refine loop_st (S := Nat) (fun i => [(0, DC (.sl 1 0 0 l.length)), (1, DV (vInt ((k + i : Nat) : Int))), (5, DV (vInt i))]) (fun i => [.cells (cOf eInt (marksI k i ++ l.drop i))]) (fun i => l.length - i) (fun i => i ≤ l.length) 0 (Nat.le_refl _)
    ⟨rfl, rfl, rfl, trivial⟩ rfl (Nat.zero_le _) ?_
  intro i hi
  simp -implicitDefEqProofs only [go_sem, ↓reduceIte, Nat.reduceEqDiff, Nat.reduceAdd, Nat.reduceLeDiff, vInt]
  refine condA_dec (fun h => ?_) (fun h => ?_)
  · have hlt : i < l.length := by omega
    simp -implicitDefEqProofs only [go_sem, ↓reduceIte, Nat.reduceEqDiff, Nat.reduceAdd, Nat.reduceLeDiff]
    refine ⟨by omega, ?_⟩
    have e1 := next_mark eInt 1 (fun _ => rfl) (marksI k) (fun i => ((k + i : Nat) : Int)) (marksI_succ k) (by simp [marksI]) l i hlt
    simp only [eInt, List.map_cons, List.map_nil, putCells_cons, putCells_nil] at e1
    rw [mid_len eInt 1 (fun _ => rfl) (marksI k) (by simp [marksI]) l i hi, if_pos (by omega), Nat.zero_add, e1]
    simp -implicitDefEqProofs only [go_sem, ↓reduceIte, Nat.reduceEqDiff, Nat.reduceAdd, Nat.reduceLeDiff, w64s (show i < 4611686018427387904 by omega), w64s (show k + i < 4611686018427387904 by omega)]
    exact next_of (i + 1) (by omega) (by omega) (Nat.le_refl _) ⟨rfl, rfl, rfl, trivial⟩ rfl
  · simp -implicitDefEqProofs only [go_sem, ↓reduceIte, Nat.reduceEqDiff, Nat.reduceAdd, Nat.reduceLeDiff]
    have : i = l.length := by omega
    subst this
    refine finK_refl (Nat.le_refl _) ⟨rfl, by simp⟩

theorem heldIntS (l : List Int) (k : Nat) (h : k + l.length < 4611686018427387904) : AFunD Tryz.prog F.laws_heldIntS [DV (vInts l), DV (vInt k)] (DV (vInt (if l = marksI k l.length then ((k + l.length : Nat) : Int) else -1))) := by
  refine AFunD.intro k_laws_heldIntS (by simp) ?pure ?_
  case pure => first | exact D.pure_v _ | exact D.pure_vs _
  unfold c_laws_heldIntS
  simp only [argE, Nat.reduceAdd]
  simp only [vInts]
  simp -implicitDefEqProofs only [go_sem, ↓reduceIte, Nat.reduceEqDiff, Nat.reduceAdd, Nat.reduceLeDiff]
  refine loop_st (S := Nat) (fun i => [(0, DV (vInts l)), (1, DV (vInt ((k + i : Nat) : Int))), (5, DV (vInt i))]) (fun _ => []) (fun i => l.length - i) (fun i => i ≤ l.length ∧ l.take i = marksI k i) 0 (Nat.le_refl _)
    ⟨rfl, rfl, rfl, trivial⟩ rfl ⟨Nat.zero_le _, rfl⟩ ?_
  rintro i ⟨hi, hp⟩
  simp -implicitDefEqProofs only [go_sem, ↓reduceIte, Nat.reduceEqDiff, Nat.reduceAdd, Nat.reduceLeDiff, vInts, vInt]
  refine condA_dec (fun h => ?_) (fun h => ?_)
  · have hlt : i < l.length := by omega
    simp -implicitDefEqProofs only [go_sem, ↓reduceIte, Nat.reduceEqDiff, Nat.reduceAdd, Nat.reduceLeDiff, List.getElem?_eq_getElem hlt]
    refine condA_dec (fun h => ?_) (fun h => ?_)
    · simp -implicitDefEqProofs only [go_sem, ↓reduceIte, Nat.reduceEqDiff, Nat.reduceAdd, Nat.reduceLeDiff]
      refine finK_v ⟨dvi ?_, rfl⟩
      rw [if_neg]
      intro e
      apply h
      have h2 : (marksI k l.length)[i]? = some ((k + i : Nat) : Int) := by simp [marksI, hlt]
      rw [← e, List.getElem?_eq_getElem hlt] at h2
      exact Option.some.inj h2
    · simp -implicitDefEqProofs only [go_sem, ↓reduceIte, Nat.reduceEqDiff, Nat.reduceAdd, Nat.reduceLeDiff, w64s (show i < 4611686018427387904 by omega), w64s (show k + i < 4611686018427387904 by omega)]
      refine next_of (i + 1) (by omega) ⟨by omega, ?_⟩ (Nat.le_refl _) ⟨rfl, rfl, rfl, trivial⟩ rfl
      rw [List.take_succ_eq_append_getElem hlt, marksI_succ, hp]
      simp only [Decidable.not_not] at h
      rw [h]
  · simp -implicitDefEqProofs only [go_sem, ↓reduceIte, Nat.reduceEqDiff, Nat.reduceAdd, Nat.reduceLeDiff]
    have : i = l.length := by omega
    subst this
    rw [List.take_length] at hp
    exact finK_v ⟨by rw [if_pos hp], rfl⟩

theorem markTeamS (l : List Team) (k : Nat) (h0 : 0 < k) (h : k + 3 * l.length < 4611686018427387904) : AFun Tryz.prog F.laws_markTeamS [DC (.sl 3 0 0 l.length), DV (vInt k)] [.cells (cOf eTeam l)] fun d m => d = DV (vInt ((k + 3 * l.length : Nat) : Int)) ∧ m = [.cells (cOf eTeam (marksT k l.length))] := by
  refine AFun.intro k_laws_markTeamS (by simp) ?_
  unfold c_laws_markTeamS
  simp only [argE, Nat.reduceAdd]
  simp -implicitDefEqProofs only [go_sem, ↓reduceIte, Nat.reduceEqDiff, Nat.reduceAdd, Nat.reduceLeDiff]
  refine loop_st (S := Nat) (fun i => [(0, DC (.sl 3 0 0 l.length)), (1, DV (vInt ((k + 3 * i : Nat) : Int))), (5, DV (vInt i))]) (fun i => [.cells (cOf eTeam (marksT k i ++ l.drop i))]) (fun i => l.length - i) (fun i => i ≤ l.length) 0 (Nat.le_refl _)
    ⟨rfl, rfl, rfl, trivial⟩ rfl (Nat.zero_le _) ?_
  intro i hi
  simp -implicitDefEqProofs only [go_sem, ↓reduceIte, Nat.reduceEqDiff, Nat.reduceAdd, Nat.reduceLeDiff, vInt]
  refine condA_dec (fun h => ?_) (fun h => ?_)
  · have hlt : i < l.length := by omega
    simp -implicitDefEqProofs only [go_sem, ↓reduceIte, Nat.reduceEqDiff, Nat.reduceAdd, Nat.reduceLeDiff]
    refine (markText (k + 3 * i) (by omega) (by omega)).callp (.v _ .nil) ?_
    simp -implicitDefEqProofs only [go_sem, ↓reduceIte, Nat.reduceEqDiff, Nat.reduceAdd, Nat.reduceLeDiff]
    refine ⟨by omega, ?_⟩
    have e1 := next_mark eTeam 3 (fun _ => rfl) (marksT k) (mTeam k) (marksT_succ k) (by simp [marksT]) l i hlt
    simp only [eTeam, mTeam, List.map_cons, List.map_nil, putCells_cons, putCells_nil] at e1
    have hml := mid_len eTeam 3 (fun _ => rfl) (marksT k) (by simp [marksT]) l i hi
    have hlm := lt_mul_of (sz := 3) hlt
    rw [hml, if_pos (by omega), Nat.zero_add]
    simp -implicitDefEqProofs only [go_sem, ↓reduceIte, Nat.reduceEqDiff, Nat.reduceAdd, Nat.reduceLeDiff, w64s (show k + 3 * i < 4611686018427387904 by omega), List.length_set]
    refine ⟨by omega, ?_⟩
    rw [hml, if_pos (by omega)]
    simp -implicitDefEqProofs only [go_sem, ↓reduceIte, Nat.reduceEqDiff, Nat.reduceAdd, Nat.reduceLeDiff, w64s (show k + 3 * i + 1 < 4611686018427387904 by omega), List.length_set]
    refine ⟨by omega, ?_⟩
    rw [hml, if_pos (by omega)]
    simp -implicitDefEqProofs only [go_sem, ↓reduceIte, Nat.reduceEqDiff, Nat.reduceAdd, Nat.reduceLeDiff, w64s (show k + 3 * i + 1 + 1 < 4611686018427387904 by omega), w64s (show i < 4611686018427387904 by omega)]
    exact next_of (i + 1) (by omega) (by omega) (Nat.le_refl _) ⟨rfl, rfl, rfl, trivial⟩ (by rw [← e1, Nat.zero_add]; rfl)
  · simp -implicitDefEqProofs only [go_sem, ↓reduceIte, Nat.reduceEqDiff, Nat.reduceAdd, Nat.reduceLeDiff]
    have : i = l.length := by omega
    subst this
    refine finK_refl (Nat.le_refl _) ⟨rfl, by simp⟩

theorem markGameS (l : List Game) (k : Nat) (h : k + 5 * l.length < 4611686018427387904) : AFun Tryz.prog F.laws_markGameS [DC (.sl 5 0 0 l.length), DV (vInt k)] [.cells (cOf eGame l)] fun d m => d = DV (vInt ((k + 5 * l.length : Nat) : Int)) ∧ m = [.cells (cOf eGame (marksG k l.length))] := by
  refine AFun.intro k_laws_markGameS (by simp) ?_
  unfold c_laws_markGameS
  simp only [argE, Nat.reduceAdd]
  simp -implicitDefEqProofs only [go_sem, ↓reduceIte, Nat.reduceEqDiff, Nat.reduceAdd, Nat.reduceLeDiff]
  refine loop_st (S := Nat) (fun i => [(0, DC (.sl 5 0 0 l.length)), (1, DV (vInt ((k + 5 * i : Nat) : Int))), (5, DV (vInt i))]) (fun i => [.cells (cOf eGame (marksG k i ++ l.drop i))]) (fun i => l.length - i) (fun i => i ≤ l.length) 0 (Nat.le_refl _)
    ⟨rfl, rfl, rfl, trivial⟩ rfl (Nat.zero_le _) ?_
  intro i hi
  simp -implicitDefEqProofs only [go_sem, ↓reduceIte, Nat.reduceEqDiff, Nat.reduceAdd, Nat.reduceLeDiff, vInt]
  refine condA_dec (fun h => ?_) (fun h => ?_)
  · have hlt : i < l.length := by omega
    have e1 := next_mark eGame 5 (fun _ => rfl) (marksG k) (mGame k) (marksG_succ k) (by simp [marksG]) l i hlt
    simp only [eGame, mGame, List.map_cons, List.map_nil, putCells_cons, putCells_nil] at e1
    have hml := mid_len eGame 5 (fun _ => rfl) (marksG k) (by simp [marksG]) l i hi
    have hlm := lt_mul_of (sz := 5) hlt
    simp -implicitDefEqProofs only [go_sem, ↓reduceIte, Nat.reduceEqDiff, Nat.reduceAdd, Nat.reduceLeDiff]
    refine ⟨by omega, ?_⟩
    rw [hml, if_pos (by omega), Nat.zero_add]
    simp -implicitDefEqProofs only [go_sem, ↓reduceIte, Nat.reduceEqDiff, Nat.reduceAdd, Nat.reduceLeDiff, w64s (show k + 5 * i < 4611686018427387904 by omega), List.length_set]
    refine ⟨by omega, ?_⟩
    rw [hml, if_pos (by omega)]
    simp -implicitDefEqProofs only [go_sem, ↓reduceIte, Nat.reduceEqDiff, Nat.reduceAdd, Nat.reduceLeDiff, w64s (show k + 5 * i + 1 < 4611686018427387904 by omega), List.length_set]
    refine ⟨by omega, ?_⟩
    rw [hml, if_pos (by omega)]
    simp -implicitDefEqProofs only [go_sem, ↓reduceIte, Nat.reduceEqDiff, Nat.reduceAdd, Nat.reduceLeDiff, w64s (show k + 5 * i + 1 + 1 < 4611686018427387904 by omega), List.length_set]
    refine ⟨by omega, ?_⟩
    rw [hml, if_pos (by omega)]
    simp -implicitDefEqProofs only [go_sem, ↓reduceIte, Nat.reduceEqDiff, Nat.reduceAdd, Nat.reduceLeDiff, w64s (show k + 5 * i + 1 + 1 + 1 < 4611686018427387904 by omega), List.length_set]
    refine ⟨by omega, ?_⟩
    rw [hml, if_pos (by omega)]
    simp -implicitDefEqProofs only [go_sem, ↓reduceIte, Nat.reduceEqDiff, Nat.reduceAdd, Nat.reduceLeDiff, w64s (show k + 5 * i + 1 + 1 + 1 + 1 < 4611686018427387904 by omega), w64s (show i < 4611686018427387904 by omega)]
    exact next_of (i + 1) (by omega) (by omega) (Nat.le_refl _) ⟨rfl, rfl, rfl, trivial⟩ (by rw [← e1, Nat.zero_add]; rfl)
  · simp -implicitDefEqProofs only [go_sem, ↓reduceIte, Nat.reduceEqDiff, Nat.reduceAdd, Nat.reduceLeDiff]
    have : i = l.length := by omega
    subst this
    refine finK_refl (Nat.le_refl _) ⟨rfl, by simp⟩

end Go.Proofs.YtneiicadhjdbiaaGreat.Ab

namespace Go.Proofs.YtneiicadhjdbiaaGreat.Ab
open Go

theorem leCs_sh (n : Nat) : ∀ (cs : List C), LeCs (fun id => id + n) cs (cs.map (shC n))
  | [] => trivial
  | x :: r => ⟨.inr rfl, leCs_sh n r⟩
theorem leT_sh (n : Nat) : ∀ (x : T), LeT (fun id => id + n) x (shT n x)
  | .c _ => .inr rfl
  | .agg cs => ⟨by simp, leCs_sh n cs⟩
theorem leTs_sh (n : Nat) : ∀ (l : List T), LeTs (fun id => id + n) l (l.map (shT n))
  | [] => trivial
  | x :: r => ⟨leT_sh n x, leTs_sh n r⟩
theorem leD_sh (n : Nat) : ∀ (d : D), LeD (fun id => id + n) d (shD n d)
  | .t x => leT_sh n x
  | .tup xs => leTs_sh n xs
  | .und => trivial
  | .any => trivial

/-- A result among the last blocks: what was ahead is let go. -/
theorem WkD.tail (A B : List Blk) (d : D) (hw : WfM B) (hd : d.lt B.length) : WkD 0 (shD A.length d) (A ++ B.map (shB A.length)) d B :=
  WkD.ren (ρ := fun id => id + A.length) ⟨fun id h => absurd h (Nat.not_lt_zero _), fun i j _ _ h => by simpa using h, fun i b' hb => ⟨shB A.length b', by
    rw [List.getElem?_append_right (Nat.le_add_left _ _), Nat.add_sub_cancel, List.getElem?_map, hb]; rfl, by
    cases b' with
    | hole => trivial
    | cells cs => exact ⟨hw i cs hb, leCs_sh _ cs⟩⟩, Nat.zero_le _⟩ (leD_sh _ d) hd

theorem finK_tail {K : D → List Blk → Prop} (n : Nat) (B : List Blk) (d : D) {d0 : D} {m : List Blk} (hn : n ≤ m.length) (hm : m.drop n = B.map (shB n)) (hd : d0 = shD n d) (hw : WfM B) (hl : d.lt B.length) (k : K d B) : finK 0 m K d0 := by
  have h1 : m = m.take n ++ B.map (shB (m.take n).length) := by
    rw [List.length_take, Nat.min_eq_left hn, ← hm, List.take_append_drop]
  have h2 : d0 = shD (m.take n).length d := by rw [List.length_take, Nat.min_eq_left hn]; exact hd
  rw [h1, h2]; exact ⟨d, B, WkD.tail _ B d hw hl, k⟩

/-- Memory of data alone. -/
theorem WfM.data {m : List Blk} (h : ∀ b ∈ m, ∃ ys : List V, b = .cells (ys.map .v)) : WfM m := fun id cs hid => by
  obtain ⟨ys, hy⟩ := h _ (List.mem_of_getElem? hid)
  cases hy; exact ltCs_vs ys

theorem cOf_data {α : Type} (f : α → List V) (l : List α) : ∃ ys : List V, Blk.cells (cOf f l) = .cells (ys.map .v) := ⟨_, rfl⟩

def dBookOwn (b : Book) (i : Nat) : D := DA [.sl 3 i 0 b.field.length, .v (.int .i64 b.rules.win), .v (.int .i64 b.rules.draw), .v (.int .i64 b.rules.loss), .sl 1 (i + 1) 0 b.rules.ladder.length, .v (.bool b.rules.again), .sl 5 (i + 2) 0 b.games.length, .sl 1 (i + 3) 0 b.fair.length, .sl 1 (i + 4) 0 b.taken.length]
def memBook (b : Book) : List Blk := [.cells (cOf eTeam b.field), .cells (cOf eInt b.rules.ladder), .cells (cOf eGame b.games), .cells (cOf eInt b.fair), .cells (cOf eInt b.taken)]
theorem memBook_wf (b : Book) : WfM (memBook b) := WfM.data fun x hx => by
  simp only [memBook, List.mem_cons, List.not_mem_nil, or_false] at hx
  rcases hx with rfl | rfl | rfl | rfl | rfl <;> exact cOf_data _ _

theorem toRules (u : Rules) (hu : u.ladder.length ≤ 1048576) : AFun Tryz.prog F.laws_toRules [dRules u] [] fun d m => d = DA [.v (.int .i64 u.win), .v (.int .i64 u.draw), .v (.int .i64 u.loss), .sl 1 0 0 u.ladder.length, .v (.bool u.again)] ∧ m = [.cells (cOf eInt u.ladder)] := by
  refine AFun.intro k_laws_toRules (by simp) ?_
  unfold c_laws_toRules
  simp only [argE, Nat.reduceAdd]
  simp only [dRules, eRules]
  simp -implicitDefEqProofs only [go_sem, ↓reduceIte, Nat.reduceEqDiff, Nat.reduceAdd, Nat.reduceLeDiff]
  refine (toIntS u.ladder hu).callp (.v _ .nil) ?_
  rintro _ _ ⟨rfl, rfl⟩
  simp -implicitDefEqProofs only [go_sem, ↓reduceIte, Nat.reduceEqDiff, Nat.reduceAdd, Nat.reduceLeDiff]
  refine finK_tail 3 [.cells (cOf eInt u.ladder)] (DA [.v (.int .i64 u.win), .v (.int .i64 u.draw), .v (.int .i64 u.loss), .sl 1 0 0 u.ladder.length, .v (.bool u.again)]) (by simp) (by simp -implicitDefEqProofs only [go_sem, ↓reduceIte, Nat.reduceEqDiff, Nat.reduceAdd, Nat.reduceLeDiff]) rfl ?_ ⟨trivial, trivial, trivial, Nat.zero_lt_one, trivial, trivial⟩ ⟨rfl, rfl⟩
  exact WfM.data fun x hx => by simp only [List.mem_cons, List.not_mem_nil, or_false] at hx; subst hx; exact cOf_data _ _

/-- What bounds a book that is copied. -/
structure Small (b : Book) : Prop where
  field : b.field.length ≤ 1048576
  ladder : b.rules.ladder.length ≤ 1048576
  games : b.games.length ≤ 1048576
  fair : b.fair.length ≤ 1048576
  taken : b.taken.length ≤ 1048576

theorem toBook (b : Book) (hb : Small b) : AFun Tryz.prog F.laws_toBook [dBook b] [] fun d m => d = dBookOwn b 0 ∧ m = memBook b := by
  refine AFun.intro k_laws_toBook (by simp) ?_
  unfold c_laws_toBook
  simp only [argE, Nat.reduceAdd]
  simp only [dBook, eBook, eRules]
  simp -implicitDefEqProofs only [go_sem, ↓reduceIte, Nat.reduceEqDiff, Nat.reduceAdd, Nat.reduceLeDiff]
  refine (toTeamS b.field hb.field).callp (.v _ .nil) ?_
  rintro _ _ ⟨rfl, rfl⟩
  simp -implicitDefEqProofs only [go_sem, ↓reduceIte, Nat.reduceEqDiff, Nat.reduceAdd, Nat.reduceLeDiff]
  refine (toRules b.rules hb.ladder).callp (.vs _ .nil) ?_
  rintro _ _ ⟨rfl, rfl⟩
  simp -implicitDefEqProofs only [go_sem, ↓reduceIte, Nat.reduceEqDiff, Nat.reduceAdd, Nat.reduceLeDiff]
  refine (toGameS b.games hb.games).callp (.v _ .nil) ?_
  rintro _ _ ⟨rfl, rfl⟩
  simp -implicitDefEqProofs only [go_sem, ↓reduceIte, Nat.reduceEqDiff, Nat.reduceAdd, Nat.reduceLeDiff]
  refine (toIntS b.fair hb.fair).callp (.v _ .nil) ?_
  rintro _ _ ⟨rfl, rfl⟩
  simp -implicitDefEqProofs only [go_sem, ↓reduceIte, Nat.reduceEqDiff, Nat.reduceAdd, Nat.reduceLeDiff]
  refine (toIntS b.taken hb.taken).callp (.v _ .nil) ?_
  rintro _ _ ⟨rfl, rfl⟩
  simp -implicitDefEqProofs only [go_sem, ↓reduceIte, Nat.reduceEqDiff, Nat.reduceAdd, Nat.reduceLeDiff]
  have lt5 : ∀ i : Nat, i < 5 → i < (memBook b).length := fun i h => h
  refine finK_tail 3 (memBook b) (dBookOwn b 0) (by simp) ?_ rfl (memBook_wf b) ⟨lt5 0 (by omega), trivial, trivial, trivial, lt5 1 (by omega), trivial, lt5 2 (by omega), lt5 3 (by omega), lt5 4 (by omega), trivial⟩ ⟨rfl, rfl⟩
  simp -implicitDefEqProofs only [go_sem, ↓reduceIte, Nat.reduceEqDiff, Nat.reduceAdd, Nat.reduceLeDiff, memBook]

end Go.Proofs.YtneiicadhjdbiaaGreat.Ab

namespace Go.Proofs.YtneiicadhjdbiaaGreat.Ab
open Go

theorem pure_lt {k : Nat} {x : T} (h : x.pure) : x.lt k := by
  cases x with
  | c x => obtain ⟨y, rfl⟩ := h; trivial
  | agg cs => obtain ⟨ys, rfl⟩ := h; exact ltCs_vs ys
theorem pure_leT {ρ : Nat → Nat} {x : T} (h : x.pure) : LeT ρ x x := by
  cases x with
  | c x => obtain ⟨y, rfl⟩ := h; exact .inr rfl
  | agg cs => obtain ⟨ys, rfl⟩ := h; exact ⟨rfl, leCs_vs ys⟩
theorem Pures.vwms {m : List Blk} {ρ : List Nat} {br : Bool} : ∀ {ds : List D}, Pures ds → VwMs m ρ br ds ds
  | [], _ => trivial
  | d :: r, ⟨⟨x, h1, h2⟩, h3⟩ => by
    subst h1
    exact ⟨VwM.ren (pure_leT h2) (pure_lt h2), Pures.vwms h3⟩

theorem renC_vs (f : Nat → Nat) (ys : List V) : (ys.map C.v).map (renC f) = ys.map .v := by
  rw [List.map_map]; rfl

/-- A callee that writes one block. -/
theorem hand1 {P : Program} {m : List Blk} {K : D → List Blk → Prop} {f i sz len : Nat} {ys : List V} {rest : List D} {Q0 : D → List Blk → Prop} (h : AFun P f (DC (.sl sz 0 0 len) :: rest) [.cells (ys.map .v)] Q0)
    (hm : m[i]? = some (.cells (ys.map .v))) (hr : Pures rest) (hq : ∀ d m1, Q0 d m1 → ∃ (v : V) (ys' : List V), d = DV v ∧ m1 = [.cells (ys'.map .v)] ∧ K (DV v) (m.set i (.cells (ys'.map .v)))) : AFunG P false f (DC (.sl sz i 0 len) :: rest) m K := by
  refine AFunG.hand (br := false) [i] h (by simp) rfl (fun j b' hj => ?_) ⟨VwM.ren (show LeD _ (DC (.sl sz 0 0 len)) _ from .inr rfl) (show 0 < 1 from Nat.zero_lt_one), hr.vwms⟩ (fun d m1 hd hl => ⟨fun h => (by cases h), ?_⟩)
  · cases j with
    | zero => cases hj; exact ⟨_, hm, ltCs_vs ys, leCs_vs ys⟩
    | succ j => simp at hj
  · obtain ⟨v, ys', rfl, rfl, hk⟩ := hq d m1 hd
    show K (DV v) (setB m [i] [renB _ (.cells (ys'.map .v))] ++ [])
    simp only [setB, renB, renC_vs, List.append_nil]
    exact hk

theorem markRules (u : Rules) (k : Nat) (h : k + u.ladder.length < 4611686018427387904) : AFun Tryz.prog F.laws_markRules [DA [.v (.int .i64 u.win), .v (.int .i64 u.draw), .v (.int .i64 u.loss), .sl 1 0 0 u.ladder.length, .v (.bool u.again)], DV (vInt k)] [.cells (cOf eInt u.ladder)]
    fun d m => d = DV (vInt ((k + u.ladder.length : Nat) : Int)) ∧ m = [.cells (cOf eInt (marksI k u.ladder.length))] := by
  refine AFun.intro k_laws_markRules (by simp) ?_
  unfold c_laws_markRules
  simp only [argE, Nat.reduceAdd]
  simp -implicitDefEqProofs only [go_sem, ↓reduceIte, Nat.reduceEqDiff, Nat.reduceAdd, Nat.reduceLeDiff]
  refine hand1 (markIntS u.ladder k h) rfl (.v _ .nil) ?_
  rintro _ _ ⟨rfl, rfl⟩
  refine ⟨_, _, rfl, rfl, ?_⟩
  simp -implicitDefEqProofs only [go_sem, ↓reduceIte, Nat.reduceEqDiff, Nat.reduceAdd, Nat.reduceLeDiff]
  refine ⟨_, _, WkD.drop (mem := [.cells (cOf eInt (marksI k u.ladder.length))]) (WfM.data fun x hx => ?_) (leD_id _) trivial, rfl, rfl⟩
  simp only [List.mem_cons, List.not_mem_nil, or_false] at hx; subst hx; exact cOf_data _ _

def mk1 (b : Book) (k : Nat) : Nat := k + 3 * b.field.length
def mk2 (b : Book) (k : Nat) : Nat := mk1 b k + b.rules.ladder.length
def mk3 (b : Book) (k : Nat) : Nat := mk2 b k + 5 * b.games.length
def mk4 (b : Book) (k : Nat) : Nat := mk3 b k + b.fair.length
def mk5 (b : Book) (k : Nat) : Nat := mk4 b k + b.taken.length
def markedBook (b : Book) (k : Nat) : Book := ⟨marksT k b.field.length, ⟨b.rules.win, b.rules.draw, b.rules.loss, marksI (mk1 b k) b.rules.ladder.length, b.rules.again⟩, marksG (mk2 b k) b.games.length, marksI (mk3 b k) b.fair.length, marksI (mk4 b k) b.taken.length⟩

/-- A callee that writes the block of a struct's one slice. -/
theorem handR {P : Program} {m : List Blk} {K : D → List Blk → Prop} {f i : Nat} {a b c g : V} {sz len : Nat} {ys : List V} {rest : List D} {Q0 : D → List Blk → Prop} (h : AFun P f (DA [.v a, .v b, .v c, .sl sz 0 0 len, .v g] :: rest) [.cells (ys.map .v)] Q0)
    (hm : m[i]? = some (.cells (ys.map .v))) (hr : Pures rest) (hq : ∀ d m1, Q0 d m1 → ∃ (v : V) (ys' : List V), d = DV v ∧ m1 = [.cells (ys'.map .v)] ∧ K (DV v) (m.set i (.cells (ys'.map .v)))) : AFunG P false f (DA [.v a, .v b, .v c, .sl sz i 0 len, .v g] :: rest) m K := by
  refine AFunG.hand (br := false) [i] h (by simp) rfl (fun j b' hj => ?_) ⟨VwM.ren (d0 := DA [.v a, .v b, .v c, .sl sz 0 0 len, .v g]) ⟨rfl, .inr rfl, .inr rfl, .inr rfl, .inr rfl, .inr rfl, trivial⟩ ⟨trivial, trivial, trivial, Nat.zero_lt_one, trivial, trivial⟩, hr.vwms⟩ (fun d m1 hd hl => ⟨fun h => (by cases h), ?_⟩)
  · cases j with
    | zero => cases hj; exact ⟨_, hm, ltCs_vs ys, leCs_vs ys⟩
    | succ j => simp at hj
  · obtain ⟨v, ys', rfl, rfl, hk⟩ := hq d m1 hd
    show K (DV v) (setB m [i] [renB _ (.cells (ys'.map .v))] ++ [])
    simp only [setB, renB, renC_vs, List.append_nil]
    exact hk

theorem markBook (b : Book) (k : Nat) (h0 : 0 < k) (h : mk5 b k < 4611686018427387904) : AFun Tryz.prog F.laws_markBook [dBookOwn b 0, DV (vInt k)] (memBook b) fun d m => d = DV (vInt (mk5 b k : Nat)) ∧ m = memBook (markedBook b k) := by
  have l5 : mk5 b k = mk4 b k + b.taken.length := rfl
  have l4 : mk4 b k = mk3 b k + b.fair.length := rfl
  have l3 : mk3 b k = mk2 b k + 5 * b.games.length := rfl
  have l2 : mk2 b k = mk1 b k + b.rules.ladder.length := rfl
  have l1 : mk1 b k = k + 3 * b.field.length := rfl
  refine AFun.intro k_laws_markBook (by simp) ?_
  unfold c_laws_markBook
  simp only [argE, Nat.reduceAdd]
  simp only [dBookOwn, memBook]
  simp -implicitDefEqProofs only [go_sem, ↓reduceIte, Nat.reduceEqDiff, Nat.reduceAdd, Nat.reduceLeDiff]
  refine hand1 (markTeamS b.field k h0 (by omega)) rfl (.v _ .nil) ?_
  rintro _ _ ⟨rfl, rfl⟩
  refine ⟨_, _, rfl, rfl, ?_⟩
  simp -implicitDefEqProofs only [go_sem, ↓reduceIte, Nat.reduceEqDiff, Nat.reduceAdd, Nat.reduceLeDiff]
  refine handR (markRules b.rules (mk1 b k) (by omega)) rfl (.v _ .nil) ?_
  rintro _ _ ⟨rfl, rfl⟩
  refine ⟨_, _, rfl, rfl, ?_⟩
  simp -implicitDefEqProofs only [go_sem, ↓reduceIte, Nat.reduceEqDiff, Nat.reduceAdd, Nat.reduceLeDiff]
  refine hand1 (markGameS b.games (mk2 b k) (by omega)) rfl (.v _ .nil) ?_
  rintro _ _ ⟨rfl, rfl⟩
  refine ⟨_, _, rfl, rfl, ?_⟩
  simp -implicitDefEqProofs only [go_sem, ↓reduceIte, Nat.reduceEqDiff, Nat.reduceAdd, Nat.reduceLeDiff]
  refine hand1 (markIntS b.fair (mk3 b k) (by omega)) rfl (.v _ .nil) ?_
  rintro _ _ ⟨rfl, rfl⟩
  refine ⟨_, _, rfl, rfl, ?_⟩
  simp -implicitDefEqProofs only [go_sem, ↓reduceIte, Nat.reduceEqDiff, Nat.reduceAdd, Nat.reduceLeDiff]
  refine hand1 (markIntS b.taken (mk4 b k) (by omega)) rfl (.v _ .nil) ?_
  rintro _ _ ⟨rfl, rfl⟩
  refine ⟨_, _, rfl, rfl, ?_⟩
  simp -implicitDefEqProofs only [go_sem, ↓reduceIte, Nat.reduceEqDiff, Nat.reduceAdd, Nat.reduceLeDiff]
  refine ⟨_, _, WkD.drop (mem := memBook (markedBook b k)) (memBook_wf _) (leD_id _) trivial, rfl, rfl⟩

end Go.Proofs.YtneiicadhjdbiaaGreat.Ab

namespace Go.Proofs.YtneiicadhjdbiaaGreat.Ab
open Go

theorem all_range_succ (f : Nat → Bool) (i : Nat) : (List.range (i + 1)).all f = ((List.range i).all f && f i) := by simp [List.range_succ]
theorem all_range_false {f : Nat → Bool} {i n : Nat} (h : i < n) (hf : f i = false) : (List.range n).all f = false := by
  cases ha : (List.range n).all f with
  | false => rfl
  | true =>
    have := List.all_eq_true.1 ha i (List.mem_range.2 h)
    rw [hf] at this; cases this
theorem any_range_succ (f : Nat → Bool) (i : Nat) : (List.range (i + 1)).any f = ((List.range i).any f || f i) := by simp [List.range_succ]
theorem any_range_true {f : Nat → Bool} {i n : Nat} (h : i < n) (hf : f i = true) : (List.range n).any f = true :=
  List.any_eq_true.2 ⟨i, List.mem_range.2 h, hf⟩

/-- A number lies between two. -/
def inB (n lo hi : Int) : Bool := decide (lo ≤ n) && decide (n ≤ hi)

theorem l01In (n lo hi : Int) : AFunD Tryz.prog F.spec_l01In [DV (vInt n), DV (vInt lo), DV (vInt hi)] (DV (.bool (inB n lo hi))) := by
  refine AFunD.intro k_spec_l01In (by simp) ?pure ?_
  case pure => first | exact D.pure_v _ | exact D.pure_vs _
  unfold c_spec_l01In
  simp only [argE, Nat.reduceAdd]
  simp -implicitDefEqProofs only [go_sem, ↓reduceIte, Nat.reduceEqDiff, Nat.reduceAdd, Nat.reduceLeDiff]
  by_cases h : lo ≤ n
  · simp -implicitDefEqProofs only [go_sem, ↓reduceIte, Nat.reduceEqDiff, Nat.reduceAdd, Nat.reduceLeDiff, h]
    exact finK_v ⟨by simp [inB, h], rfl⟩
  · simp -implicitDefEqProofs only [go_sem, ↓reduceIte, Nat.reduceEqDiff, Nat.reduceAdd, Nat.reduceLeDiff, h]
    exact finK_v ⟨by simp [inB, h], rfl⟩

theorem within (n lo hi : Int) : AFunD Tryz.prog F.impl_within [DV (vInt n), DV (vInt lo), DV (vInt hi)] (DV (.bool (inB n lo hi))) := by
  refine AFunD.intro k_impl_within (by simp) ?pure ?_
  case pure => first | exact D.pure_v _ | exact D.pure_vs _
  unfold c_impl_within
  simp only [argE, Nat.reduceAdd]
  simp -implicitDefEqProofs only [go_sem, ↓reduceIte, Nat.reduceEqDiff, Nat.reduceAdd, Nat.reduceLeDiff]
  by_cases h : lo ≤ n
  · simp -implicitDefEqProofs only [go_sem, ↓reduceIte, Nat.reduceEqDiff, Nat.reduceAdd, Nat.reduceLeDiff, h]
    exact finK_v ⟨by simp [inB, h], rfl⟩
  · simp -implicitDefEqProofs only [go_sem, ↓reduceIte, Nat.reduceEqDiff, Nat.reduceAdd, Nat.reduceLeDiff, h]
    exact finK_v ⟨by simp [inB, h], rfl⟩

def has (l : List Int) (x : Int) : Bool := (List.range l.length).any fun i => l[i]? == some x

theorem l02Has (l : List Int) (x : Int) (hl : l.length < 4611686018427387904) : AFunD Tryz.prog F.spec_l02Has [DV (vInts l), DV (vInt x)] (DV (.bool (has l x))) := by
  refine AFunD.intro k_spec_l02Has (by simp) ?pure ?_
  case pure => first | exact D.pure_v _ | exact D.pure_vs _
  unfold c_spec_l02Has
  simp only [argE, Nat.reduceAdd]
  simp only [vInts]
  simp -implicitDefEqProofs only [go_sem, ↓reduceIte, Nat.reduceEqDiff, Nat.reduceAdd, Nat.reduceLeDiff]
  refine loop_st (S := Nat) (fun i => [(0, DV (vInts l)), (1, DV (vInt x)), (7, DV (vInts l)), (8, DV (vInt l.length)), (9, DV (vInt i))]) (fun _ => []) (fun i => l.length - i) (fun i => i ≤ l.length ∧ ((List.range i).any fun i => l[i]? == some x) = false) 0 (Nat.zero_le _)
    ⟨rfl, rfl, rfl, rfl, rfl, trivial⟩ rfl ⟨Nat.zero_le _, rfl⟩ ?_
  rintro i ⟨hi, hp⟩
  simp -implicitDefEqProofs only [go_sem, ↓reduceIte, Nat.reduceEqDiff, Nat.reduceAdd, Nat.reduceLeDiff, vInts, vInt]
  refine condA_dec (fun h => ?_) (fun h => ?_)
  · have hlt : i < l.length := by omega
    simp -implicitDefEqProofs only [go_sem, ↓reduceIte, Nat.reduceEqDiff, Nat.reduceAdd, Nat.reduceLeDiff, List.getElem?_eq_getElem hlt]
    refine condA_dec (fun h => ?_) (fun h => ?_)
    · simp -implicitDefEqProofs only [go_sem, ↓reduceIte, Nat.reduceEqDiff, Nat.reduceAdd, Nat.reduceLeDiff]
      exact finK_v ⟨by rw [has, any_range_true hlt]; simp [hlt, h], rfl⟩
    · simp -implicitDefEqProofs only [go_sem, ↓reduceIte, Nat.reduceEqDiff, Nat.reduceAdd, Nat.reduceLeDiff, w64s (show i < 4611686018427387904 by omega)]
      exact next_of (i + 1) (by omega) ⟨by omega, by rw [any_range_succ, hp]; simp [hlt, h]⟩ (Nat.zero_le _) ⟨rfl, rfl, rfl, rfl, rfl, trivial⟩ rfl
  · simp -implicitDefEqProofs only [go_sem, ↓reduceIte, Nat.reduceEqDiff, Nat.reduceAdd, Nat.reduceLeDiff]
    have : i = l.length := by omega
    subst this
    exact finK_v ⟨by rw [has, hp], rfl⟩

/-- A byte of a name, by its place. -/
def okc (i : Nat) (c : UInt8) : Bool := (decide (97 ≤ (c.toNat : Int)) && decide ((c.toNat : Int) ≤ 122)) || !(decide ((i : Int) = 0) || decide ((c.toNat : Int) < 48) || decide (57 < (c.toNat : Int)))
def isName (s : List UInt8) : Bool := ((List.range s.length).all fun i => okc i (s.getD i 0)) && inB s.length 1 8

theorem specIsName (s : List UInt8) (hs : s.length < 4611686018427387904) : AFunD Tryz.prog F.spec_IsName [DV (.str s)] (DV (.bool (isName s))) := by
  refine AFunD.intro k_spec_IsName (by simp) ?pure ?_
  case pure => first | exact D.pure_v _ | exact D.pure_vs _
  unfold c_spec_IsName
  simp only [argE, Nat.reduceAdd]
  simp -implicitDefEqProofs only [go_sem, ↓reduceIte, Nat.reduceEqDiff, Nat.reduceAdd, Nat.reduceLeDiff]
  refine loop_st (S := Nat) (fun i => [(0, DV (.str s)), (3, DV (vInt i))]) (fun _ => []) (fun i => s.length - i) (fun i => i ≤ s.length ∧ ((List.range i).all fun i => okc i (s.getD i 0)) = true) 0 (Nat.zero_le _)
    ⟨rfl, rfl, trivial⟩ rfl ⟨Nat.zero_le _, rfl⟩ ?_
  rintro i ⟨hi, hp⟩
  simp -implicitDefEqProofs only [go_sem, ↓reduceIte, Nat.reduceEqDiff, Nat.reduceAdd, Nat.reduceLeDiff, vInt]
  refine condA_dec (fun h => ?_) (fun h => ?_)
  · have hlt : i < s.length := by omega
    have hg : s.getD i 0 = s[i] := by simp [hlt]
    have bad : okc i s[i] = false → isName s = false := fun h => by rw [isName, all_range_false hlt (by rw [hg]; exact h)]; rfl
    have good : okc i s[i] = true → ((List.range (i + 1)).all fun i => okc i (s.getD i 0)) = true := fun h => by rw [all_range_succ, hp, hg, h]; rfl
    cases h1 : decide (97 ≤ (s[i].toNat : Int)) <;> cases h2 : decide ((s[i].toNat : Int) ≤ 122) <;> cases h3 : decide ((i : Int) = 0) <;> cases h4 : decide ((s[i].toNat : Int) < 48) <;> cases h5 : decide (57 < (s[i].toNat : Int)) <;>
      simp -implicitDefEqProofs only [go_sem, ↓reduceIte, Nat.reduceEqDiff, Nat.reduceAdd, Nat.reduceLeDiff, List.getElem?_eq_getElem hlt, h1, h2, h3, h4, h5, w64s (show i < 4611686018427387904 by omega)]
    all_goals first
      | exact finK_v ⟨by rw [bad (by simp only [okc, h1, h2, h3, h4, h5] <;> rfl)], rfl⟩
      | exact next_of (i + 1) (by omega) ⟨by omega, good (by simp only [okc, h1, h2, h3, h4, h5] <;> rfl)⟩ (Nat.zero_le _) ⟨rfl, rfl, trivial⟩ rfl
  · simp -implicitDefEqProofs only [go_sem, ↓reduceIte, Nat.reduceEqDiff, Nat.reduceAdd, Nat.reduceLeDiff]
    have : i = s.length := by omega
    subst this
    refine (l01In s.length 1 8).callp (.v _ (.v _ (.v _ .nil))) ?_
    simp -implicitDefEqProofs only [go_sem, ↓reduceIte, Nat.reduceEqDiff, Nat.reduceAdd, Nat.reduceLeDiff]
    exact finK_v ⟨by rw [isName, hp]; rfl, rfl⟩

theorem implIsName (s : List UInt8) (hs : s.length < 4611686018427387904) : AFunD Tryz.prog F.impl_IsName [DV (.str s)] (DV (.bool (isName s))) := by
  refine AFunD.intro k_impl_IsName (by simp) ?pure ?_
  case pure => first | exact D.pure_v _ | exact D.pure_vs _
  unfold c_impl_IsName
  simp only [argE, Nat.reduceAdd]
  simp -implicitDefEqProofs only [go_sem, ↓reduceIte, Nat.reduceEqDiff, Nat.reduceAdd, Nat.reduceLeDiff]
  refine loop_st (S := Nat) (fun i => [(0, DV (.str s)), (6, DV (vInt s.length)), (7, DV (vInt i))]) (fun _ => []) (fun i => s.length - i) (fun i => i ≤ s.length ∧ ((List.range i).all fun i => okc i (s.getD i 0)) = true) 0 (Nat.zero_le _)
    ⟨rfl, rfl, rfl, trivial⟩ rfl ⟨Nat.zero_le _, rfl⟩ ?_
  rintro i ⟨hi, hp⟩
  simp -implicitDefEqProofs only [go_sem, ↓reduceIte, Nat.reduceEqDiff, Nat.reduceAdd, Nat.reduceLeDiff, vInt]
  refine condA_dec (fun h => ?_) (fun h => ?_)
  · have hlt : i < s.length := by omega
    have hg : s.getD i 0 = s[i] := by simp [hlt]
    have bad : okc i s[i] = false → isName s = false := fun h => by rw [isName, all_range_false hlt (by rw [hg]; exact h)]; rfl
    have good : okc i s[i] = true → ((List.range (i + 1)).all fun i => okc i (s.getD i 0)) = true := fun h => by rw [all_range_succ, hp, hg, h]; rfl
    cases h1 : decide (97 ≤ (s[i].toNat : Int)) <;> cases h2 : decide ((s[i].toNat : Int) ≤ 122) <;> cases h3 : decide ((i : Int) = 0) <;> cases h4 : decide ((s[i].toNat : Int) < 48) <;> cases h5 : decide (57 < (s[i].toNat : Int)) <;>
      simp -implicitDefEqProofs only [go_sem, ↓reduceIte, Nat.reduceEqDiff, Nat.reduceAdd, Nat.reduceLeDiff, List.getElem?_eq_getElem hlt, h1, h2, h3, h4, h5, w64s (show i < 4611686018427387904 by omega)]
    all_goals first
      | exact finK_v ⟨by rw [bad (by simp only [okc, h1, h2, h3, h4, h5] <;> rfl)], rfl⟩
      | exact next_of (i + 1) (by omega) ⟨by omega, good (by simp only [okc, h1, h2, h3, h4, h5] <;> rfl)⟩ (Nat.zero_le _) ⟨rfl, rfl, rfl, trivial⟩ rfl
  · simp -implicitDefEqProofs only [go_sem, ↓reduceIte, Nat.reduceEqDiff, Nat.reduceAdd, Nat.reduceLeDiff]
    have : i = s.length := by omega
    subst this
    refine (within s.length 1 8).callp (.v _ (.v _ (.v _ .nil))) ?_
    simp -implicitDefEqProofs only [go_sem, ↓reduceIte, Nat.reduceEqDiff, Nat.reduceAdd, Nat.reduceLeDiff]
    exact finK_v ⟨by rw [isName, hp]; rfl, rfl⟩

def teamOk (t : Team) : Bool := isName t.name && inB t.club 0 5 && inB t.seed 1 8

theorem specTeamOk (t : Team) (ht : t.name.length < 4611686018427387904) : AFunD Tryz.prog F.spec_TeamOk [dTeam t] (DV (.bool (teamOk t))) := by
  refine AFunD.intro k_spec_TeamOk (by simp) ?pure ?_
  case pure => first | exact D.pure_v _ | exact D.pure_vs _
  unfold c_spec_TeamOk
  simp only [argE, Nat.reduceAdd]
  simp only [dTeam, eTeam]
  simp -implicitDefEqProofs only [go_sem, ↓reduceIte, Nat.reduceEqDiff, Nat.reduceAdd, Nat.reduceLeDiff]
  refine (specIsName t.name ht).callp (.v _ .nil) ?_
  cases h1 : isName t.name
  · simp -implicitDefEqProofs only [go_sem, ↓reduceIte, Nat.reduceEqDiff, Nat.reduceAdd, Nat.reduceLeDiff]
    exact finK_v ⟨by simp [teamOk, h1], rfl⟩
  · simp -implicitDefEqProofs only [go_sem, ↓reduceIte, Nat.reduceEqDiff, Nat.reduceAdd, Nat.reduceLeDiff]
    refine (l01In t.club 0 5).callp (.v _ (.v _ (.v _ .nil))) ?_
    cases h2 : inB t.club 0 5
    · simp -implicitDefEqProofs only [go_sem, ↓reduceIte, Nat.reduceEqDiff, Nat.reduceAdd, Nat.reduceLeDiff]
      exact finK_v ⟨by simp [teamOk, h2], rfl⟩
    · simp -implicitDefEqProofs only [go_sem, ↓reduceIte, Nat.reduceEqDiff, Nat.reduceAdd, Nat.reduceLeDiff]
      refine (l01In t.seed 1 8).callp (.v _ (.v _ (.v _ .nil))) ?_
      simp -implicitDefEqProofs only [go_sem, ↓reduceIte, Nat.reduceEqDiff, Nat.reduceAdd, Nat.reduceLeDiff]
      exact finK_v ⟨by simp [teamOk, h1, h2], rfl⟩

theorem implTeamOk (t : Team) (ht : t.name.length < 4611686018427387904) : AFunD Tryz.prog F.impl_TeamOk [dTeam t] (DV (.bool (teamOk t))) := by
  refine AFunD.intro k_impl_TeamOk (by simp) ?pure ?_
  case pure => first | exact D.pure_v _ | exact D.pure_vs _
  unfold c_impl_TeamOk
  simp only [argE, Nat.reduceAdd]
  simp only [dTeam, eTeam]
  simp -implicitDefEqProofs only [go_sem, ↓reduceIte, Nat.reduceEqDiff, Nat.reduceAdd, Nat.reduceLeDiff]
  refine (implIsName t.name ht).callp (.v _ .nil) ?_
  cases h1 : isName t.name
  · simp -implicitDefEqProofs only [go_sem, ↓reduceIte, Nat.reduceEqDiff, Nat.reduceAdd, Nat.reduceLeDiff]
    exact finK_v ⟨by simp [teamOk, h1], rfl⟩
  · simp -implicitDefEqProofs only [go_sem, ↓reduceIte, Nat.reduceEqDiff, Nat.reduceAdd, Nat.reduceLeDiff]
    refine (within t.club 0 5).callp (.v _ (.v _ (.v _ .nil))) ?_
    cases h2 : inB t.club 0 5
    · simp -implicitDefEqProofs only [go_sem, ↓reduceIte, Nat.reduceEqDiff, Nat.reduceAdd, Nat.reduceLeDiff]
      exact finK_v ⟨by simp [teamOk, h2], rfl⟩
    · simp -implicitDefEqProofs only [go_sem, ↓reduceIte, Nat.reduceEqDiff, Nat.reduceAdd, Nat.reduceLeDiff]
      refine (within t.seed 1 8).callp (.v _ (.v _ (.v _ .nil))) ?_
      simp -implicitDefEqProofs only [go_sem, ↓reduceIte, Nat.reduceEqDiff, Nat.reduceAdd, Nat.reduceLeDiff]
      exact finK_v ⟨by simp [teamOk, h1, h2], rfl⟩

end Go.Proofs.YtneiicadhjdbiaaGreat.Ab

namespace Go.Proofs.YtneiicadhjdbiaaGreat.Ab
open Go

theorem slsA_pre {α : Type} {e : Env} {sz : Nat} {K : D → Prop} {f : α → List V} {l : List α} {x : Opd} (i : Nat) (hi : i ≤ l.length) (hx : ev e x = DV (vInt i)) (k : K (DV (.ro sz ((l.take i).map f)))) : slsA sz (DV (.ro sz (l.map f))) e none (some x) K := by
  refine slsA_ro sz _ none (some x) K 0 i rfl (by rw [bnd_some, hx]; rfl) (Int.le_refl _) (by omega) (by simp; omega) ?_
  have : ((l.map f).drop (0 : Int).toNat).take ((i : Int) - 0).toNat = (l.take i).map f := by simp [List.map_take]
  rw [this]; exact k

def clash (o t : Team) : Bool := decide (o.name = t.name) || decide (o.seed = t.seed)
def teamAt (l : List Team) (i : Nat) : Bool := (l[i]?).all fun t => teamOk t && !((List.range i).any fun j => (l[j]?).any fun o => clash o t)
def fieldOk (l : List Team) : Bool := inB l.length 2 8 && (List.range l.length).all (teamAt l)

theorem specFieldOk (l : List Team) (hl : l.length < 4611686018427387904) (hn : ∀ t ∈ l, t.name.length < 4611686018427387904) : AFunD Tryz.prog F.spec_FieldOk [DV (vTeams l)] (DV (.bool (fieldOk l))) := by
  refine AFunD.intro k_spec_FieldOk (by simp) ?pure ?_
  case pure => first | exact D.pure_v _ | exact D.pure_vs _
  unfold c_spec_FieldOk
  simp only [argE, Nat.reduceAdd]
  simp only [vTeams]
  simp -implicitDefEqProofs only [go_sem, ↓reduceIte, Nat.reduceEqDiff, Nat.reduceAdd, Nat.reduceLeDiff]
  refine (l01In l.length 2 8).callp (.v _ (.v _ (.v _ .nil))) ?_
  cases h1 : inB l.length 2 8
  · simp -implicitDefEqProofs only [go_sem, ↓reduceIte, Nat.reduceEqDiff, Nat.reduceAdd, Nat.reduceLeDiff]
    exact finK_v ⟨by simp [fieldOk, h1], rfl⟩
  simp -implicitDefEqProofs only [go_sem, ↓reduceIte, Nat.reduceEqDiff, Nat.reduceAdd, Nat.reduceLeDiff]
  refine loop_st (S := Nat) (fun i => [(0, DV (vTeams l)), (11, DV (vTeams l)), (12, DV (vInt l.length)), (13, DV (vInt i))]) (fun _ => []) (fun i => l.length - i) (fun i => i ≤ l.length ∧ (List.range i).all (teamAt l) = true) 0 (Nat.zero_le _)
    ⟨rfl, rfl, rfl, rfl, trivial⟩ rfl ⟨Nat.zero_le _, rfl⟩ ?_
  rintro i ⟨hi, hp⟩
  simp -implicitDefEqProofs only [go_sem, ↓reduceIte, Nat.reduceEqDiff, Nat.reduceAdd, Nat.reduceLeDiff, vTeams, vInt]
  refine condA_dec (fun h => ?_) (fun h => ?_)
  · have hlt : i < l.length := by omega
    have bad : teamAt l i = false → fieldOk l = false := fun h => by rw [fieldOk, all_range_false hlt h]; simp
    simp -implicitDefEqProofs only [go_sem, ↓reduceIte, Nat.reduceEqDiff, Nat.reduceAdd, Nat.reduceLeDiff, List.getElem?_eq_getElem hlt]
    simp only [eTeam]
    simp -implicitDefEqProofs only [go_sem, ↓reduceIte, Nat.reduceEqDiff, Nat.reduceAdd, Nat.reduceLeDiff]
    refine (specTeamOk l[i] (hn _ (List.getElem_mem hlt))).callp (.vs _ .nil) ?_
    cases h2 : teamOk l[i]
    · simp -implicitDefEqProofs only [go_sem, ↓reduceIte, Nat.reduceEqDiff, Nat.reduceAdd, Nat.reduceLeDiff]
      exact finK_v ⟨by rw [bad (by simp [teamAt, hlt, h2])], rfl⟩
    simp -implicitDefEqProofs only [go_sem, ↓reduceIte, Nat.reduceEqDiff, Nat.reduceAdd, Nat.reduceLeDiff]
    refine slsA_pre (f := eTeam) (l := l) i (by omega) rfl ?_
    simp -implicitDefEqProofs only [go_sem, ↓reduceIte, Nat.reduceEqDiff, Nat.reduceAdd, Nat.reduceLeDiff]
    refine loop_st (S := Nat) (fun j => [(0, DV (vTeams l)), (11, DV (vTeams l)), (12, DV (vInt l.length)), (13, DV (vInt i)), (4, DC (.ptr 0 0)), (23, DV (vTeams (l.take i))), (24, DV (vInt i)), (25, DV (vInt j))]) (fun _ => [.cells ((eTeam l[i]).map .v)]) (fun j => i - j)
      (fun j => j ≤ i ∧ ((List.range j).any fun j => (l[j]?).any fun o => clash o l[i]) = false) 0 (Nat.zero_le _)
      ⟨rfl, rfl, rfl, rfl, rfl, rfl, by simp [get, Nat.min_eq_left hi], rfl, trivial⟩ rfl ⟨Nat.zero_le _, rfl⟩ ?_
    rintro j ⟨hj, hq⟩
    simp only [eTeam]
    simp -implicitDefEqProofs only [go_sem, ↓reduceIte, Nat.reduceEqDiff, Nat.reduceAdd, Nat.reduceLeDiff, vTeams, vInt]
    refine condA_dec (fun h => ?_) (fun h => ?_)
    · have hlj : j < i := by omega
      have hljl : j < l.length := by omega
      have hget : (l.take i)[j]? = some l[j] := by rw [List.getElem?_take, if_pos hlj, List.getElem?_eq_getElem hljl]
      simp -implicitDefEqProofs only [go_sem, ↓reduceIte, Nat.reduceEqDiff, Nat.reduceAdd, Nat.reduceLeDiff, hget]
      simp only [eTeam]
      simp -implicitDefEqProofs only [go_sem, ↓reduceIte, Nat.reduceEqDiff, Nat.reduceAdd, Nat.reduceLeDiff]
      have hbad : clash l[j] l[i] = true → fieldOk l = false := fun h => bad (by
        simp only [teamAt, List.getElem?_eq_getElem hlt, Option.all_some, h2]
        rw [any_range_true hlj (by simp [hljl, h])]; rfl)
      have hgood : clash l[j] l[i] = false → ((List.range (j + 1)).any fun j => (l[j]?).any fun o => clash o l[i]) = false := fun h => by rw [any_range_succ, hq]; simp [hljl, h]
      cases h3 : decide (l[j].name = l[i].name)
      · cases h4 : decide (l[j].seed = l[i].seed)
        · simp -implicitDefEqProofs only [go_sem, ↓reduceIte, Nat.reduceEqDiff, Nat.reduceAdd, Nat.reduceLeDiff, w64s (show j < 4611686018427387904 by omega), h3, h4]
          exact next_drop (j + 1) _ (by omega) ⟨by omega, hgood (by simp only [clash, h3, h4] <;> rfl)⟩ (WfM.data fun x hx => by simp only [List.mem_cons, List.not_mem_nil, or_false] at hx; subst hx; exact ⟨eTeam l[i], rfl⟩) (Nat.zero_le _) ⟨rfl, rfl, rfl, rfl, rfl, rfl, rfl, rfl, trivial⟩ ⟨trivial, trivial, trivial, trivial, Nat.zero_lt_one, trivial, trivial, trivial, trivial⟩ rfl
        · simp -implicitDefEqProofs only [go_sem, ↓reduceIte, Nat.reduceEqDiff, Nat.reduceAdd, Nat.reduceLeDiff, h3, h4]
          exact finK_v ⟨by rw [hbad (by simp only [clash, h3, h4] <;> rfl)], rfl⟩
      · simp -implicitDefEqProofs only [go_sem, ↓reduceIte, Nat.reduceEqDiff, Nat.reduceAdd, Nat.reduceLeDiff, h3]
        exact finK_v ⟨by rw [hbad (by simp only [clash, h3] <;> rfl)], rfl⟩
    · have hji : j = i := by omega
      subst hji
      simp -implicitDefEqProofs only [go_sem, ↓reduceIte, Nat.reduceEqDiff, Nat.reduceAdd, Nat.reduceLeDiff, w64s (show j < 4611686018427387904 by omega)]
      exact next_drop (j + 1) _ (by omega) ⟨by omega, by rw [all_range_succ, hp]; simp only [teamAt, List.getElem?_eq_getElem hlt, Option.all_some, h2, hq]; rfl⟩ WfM.nil (Nat.zero_le _) ⟨rfl, rfl, rfl, rfl, trivial⟩ ⟨trivial, trivial, trivial, trivial, trivial⟩ rfl
  · simp -implicitDefEqProofs only [go_sem, ↓reduceIte, Nat.reduceEqDiff, Nat.reduceAdd, Nat.reduceLeDiff]
    have : i = l.length := by omega
    subst this
    exact finK_v ⟨by rw [fieldOk, hp, h1]; rfl, rfl⟩

end Go.Proofs.YtneiicadhjdbiaaGreat.Ab

namespace Go.Proofs.YtneiicadhjdbiaaGreat.Ab
open Go

theorem inB_iff {n lo hi : Int} : inB n lo hi = true ↔ lo ≤ n ∧ n ≤ hi := by simp [inB]

def firstI (f : Nat → Bool) (n : Nat) : Int := match (List.range n).find? f with
  | some i => (i : Int)
  | none => -1
theorem firstI_some {f : Nat → Bool} {i n : Nat} (h : i < n) (hf : f i = true) (hp : (List.range i).any f = false) : firstI f n = i := by
  have : (List.range n).find? f = some i := by
    rw [List.find?_range_eq_some]
    refine ⟨hf, List.mem_range.2 h, fun j hj => ?_⟩
    have := List.any_eq_false.1 hp j (List.mem_range.2 hj)
    simpa using this
  rw [firstI, this]
theorem firstI_none {f : Nat → Bool} {n : Nat} (hp : (List.range n).any f = false) : firstI f n = -1 := by
  have : (List.range n).find? f = none := by
    rw [List.find?_eq_none]
    intro x hx
    have := List.any_eq_false.1 hp x hx
    simpa using this
  rw [firstI, this]

def gameOk (n : Int) (g : Game) : Bool := inB n 2 8 && inB g.home 0 (n - 1) && inB g.away 0 (n - 1) && !decide (g.home = g.away) && inB g.state 0 4 &&
  (if g.state = 1 then inB g.hg 0 99 && inB g.ag 0 99 else decide (g.hg = 0) && decide (g.ag = 0))

theorem specGameOk (n : Int) (g : Game) : AFunD Tryz.prog F.spec_GameOk [DV (vInt n), dGame g] (DV (.bool (gameOk n g))) := by
  refine AFunD.intro k_spec_GameOk (by simp) ?pure ?_
  case pure => first | exact D.pure_v _ | exact D.pure_vs _
  unfold c_spec_GameOk
  simp only [argE, Nat.reduceAdd]
  simp only [dGame, eGame]
  simp -implicitDefEqProofs only [go_sem, ↓reduceIte, Nat.reduceEqDiff, Nat.reduceAdd, Nat.reduceLeDiff]
  refine (l01In n 2 8).callp (.v _ (.v _ (.v _ .nil))) ?_
  cases h1 : inB n 2 8
  · simp -implicitDefEqProofs only [go_sem, ↓reduceIte, Nat.reduceEqDiff, Nat.reduceAdd, Nat.reduceLeDiff]
    exact finK_v ⟨by simp [gameOk, h1], rfl⟩
  have hn := inB_iff.1 h1
  simp -implicitDefEqProofs only [go_sem, ↓reduceIte, Nat.reduceEqDiff, Nat.reduceAdd, Nat.reduceLeDiff, w64 (x := n - 1) (by omega) (by omega)]
  refine (l01In g.home 0 (n - 1)).callp (.v _ (.v _ (.v _ .nil))) ?_
  cases h2 : inB g.home 0 (n - 1)
  · simp -implicitDefEqProofs only [go_sem, ↓reduceIte, Nat.reduceEqDiff, Nat.reduceAdd, Nat.reduceLeDiff]
    exact finK_v ⟨by simp [gameOk, h2], rfl⟩
  simp -implicitDefEqProofs only [go_sem, ↓reduceIte, Nat.reduceEqDiff, Nat.reduceAdd, Nat.reduceLeDiff, w64 (x := n - 1) (by omega) (by omega)]
  refine (l01In g.away 0 (n - 1)).callp (.v _ (.v _ (.v _ .nil))) ?_
  cases h3 : inB g.away 0 (n - 1)
  · simp -implicitDefEqProofs only [go_sem, ↓reduceIte, Nat.reduceEqDiff, Nat.reduceAdd, Nat.reduceLeDiff]
    exact finK_v ⟨by simp [gameOk, h3], rfl⟩
  cases h4 : decide (g.home = g.away)
  rotate_left
  · simp -implicitDefEqProofs only [go_sem, ↓reduceIte, Nat.reduceEqDiff, Nat.reduceAdd, Nat.reduceLeDiff, h4]
    exact finK_v ⟨by simp only [gameOk, h4]; simp, rfl⟩
  simp -implicitDefEqProofs only [go_sem, ↓reduceIte, Nat.reduceEqDiff, Nat.reduceAdd, Nat.reduceLeDiff, h4]
  refine (l01In g.state 0 4).callp (.v _ (.v _ (.v _ .nil))) ?_
  cases h5 : inB g.state 0 4
  · simp -implicitDefEqProofs only [go_sem, ↓reduceIte, Nat.reduceEqDiff, Nat.reduceAdd, Nat.reduceLeDiff]
    exact finK_v ⟨by simp [gameOk, h5], rfl⟩
  simp -implicitDefEqProofs only [go_sem, ↓reduceIte, Nat.reduceEqDiff, Nat.reduceAdd, Nat.reduceLeDiff]
  have hh : g.home ≠ g.away := of_decide_eq_false h4
  refine condA_dec (fun h => ?_) (fun h => ?_)
  · cases h6 : decide (g.hg = 0)
    · simp -implicitDefEqProofs only [go_sem, ↓reduceIte, Nat.reduceEqDiff, Nat.reduceAdd, Nat.reduceLeDiff, h6]
      exact finK_v ⟨by rw [gameOk, if_neg h, h6]; simp, rfl⟩
    · simp -implicitDefEqProofs only [go_sem, ↓reduceIte, Nat.reduceEqDiff, Nat.reduceAdd, Nat.reduceLeDiff, h6]
      exact finK_v ⟨by rw [gameOk, if_neg h, h6, h1, h2, h3, h4, h5]; simp, rfl⟩
  · have h : g.state = 1 := by simpa using h
    simp -implicitDefEqProofs only [go_sem, ↓reduceIte, Nat.reduceEqDiff, Nat.reduceAdd, Nat.reduceLeDiff]
    refine (l01In g.hg 0 99).callp (.v _ (.v _ (.v _ .nil))) ?_
    cases h6 : inB g.hg 0 99
    · simp -implicitDefEqProofs only [go_sem, ↓reduceIte, Nat.reduceEqDiff, Nat.reduceAdd, Nat.reduceLeDiff]
      exact finK_v ⟨by rw [gameOk, if_pos h, h6]; simp, rfl⟩
    · simp -implicitDefEqProofs only [go_sem, ↓reduceIte, Nat.reduceEqDiff, Nat.reduceAdd, Nat.reduceLeDiff]
      refine (l01In g.ag 0 99).callp (.v _ (.v _ (.v _ .nil))) ?_
      simp -implicitDefEqProofs only [go_sem, ↓reduceIte, Nat.reduceEqDiff, Nat.reduceAdd, Nat.reduceLeDiff]
      exact finK_v ⟨by rw [gameOk, if_pos h, h6, h1, h2, h3, h4, h5]; simp, rfl⟩

def gameIs (l : List Game) (a b : Int) (i : Nat) : Bool := (l[i]?).any fun g => decide (g.home = a) && decide (g.away = b)
def gameOf (l : List Game) (a b : Int) : Int := firstI (gameIs l a b) l.length

theorem specGameOf (l : List Game) (a b : Int) (hl : l.length < 4611686018427387904) : AFunD Tryz.prog F.spec_GameOf [DV (vGames l), DV (vInt a), DV (vInt b)] (DV (vInt (gameOf l a b))) := by
  refine AFunD.intro k_spec_GameOf (by simp) ?pure ?_
  case pure => first | exact D.pure_v _ | exact D.pure_vs _
  unfold c_spec_GameOf
  simp only [argE, Nat.reduceAdd]
  simp only [vGames]
  simp -implicitDefEqProofs only [go_sem, ↓reduceIte, Nat.reduceEqDiff, Nat.reduceAdd, Nat.reduceLeDiff]
  refine loop_st (S := Nat) (fun i => [(0, DV (vGames l)), (1, DV (vInt a)), (2, DV (vInt b)), (9, DV (vGames l)), (10, DV (vInt l.length)), (11, DV (vInt i))]) (fun _ => []) (fun i => l.length - i) (fun i => i ≤ l.length ∧ (List.range i).any (gameIs l a b) = false) 0 (Nat.zero_le _)
    ⟨rfl, rfl, rfl, rfl, rfl, rfl, trivial⟩ rfl ⟨Nat.zero_le _, rfl⟩ ?_
  rintro i ⟨hi, hp⟩
  simp -implicitDefEqProofs only [go_sem, ↓reduceIte, Nat.reduceEqDiff, Nat.reduceAdd, Nat.reduceLeDiff, vGames, vInt]
  refine condA_dec (fun h => ?_) (fun h => ?_)
  · have hlt : i < l.length := by omega
    simp -implicitDefEqProofs only [go_sem, ↓reduceIte, Nat.reduceEqDiff, Nat.reduceAdd, Nat.reduceLeDiff, List.getElem?_eq_getElem hlt]
    simp only [eGame]
    simp -implicitDefEqProofs only [go_sem, ↓reduceIte, Nat.reduceEqDiff, Nat.reduceAdd, Nat.reduceLeDiff]
    cases h1 : decide (l[i].home = a)
    · simp -implicitDefEqProofs only [go_sem, ↓reduceIte, Nat.reduceEqDiff, Nat.reduceAdd, Nat.reduceLeDiff, h1, w64s (show i < 4611686018427387904 by omega)]
      exact next_drop (i + 1) _ (by omega) ⟨by omega, by rw [any_range_succ, hp, gameIs, List.getElem?_eq_getElem hlt, Option.any_some, h1]; rfl⟩ WfM.nil (Nat.zero_le _) ⟨rfl, rfl, rfl, rfl, rfl, rfl, trivial⟩ ⟨trivial, trivial, trivial, trivial, trivial, trivial, trivial⟩ rfl
    · cases h2 : decide (l[i].away = b)
      · simp -implicitDefEqProofs only [go_sem, ↓reduceIte, Nat.reduceEqDiff, Nat.reduceAdd, Nat.reduceLeDiff, h1, h2, w64s (show i < 4611686018427387904 by omega)]
        exact next_drop (i + 1) _ (by omega) ⟨by omega, by rw [any_range_succ, hp, gameIs, List.getElem?_eq_getElem hlt, Option.any_some, h1, h2]; rfl⟩ WfM.nil (Nat.zero_le _) ⟨rfl, rfl, rfl, rfl, rfl, rfl, trivial⟩ ⟨trivial, trivial, trivial, trivial, trivial, trivial, trivial⟩ rfl
      · simp -implicitDefEqProofs only [go_sem, ↓reduceIte, Nat.reduceEqDiff, Nat.reduceAdd, Nat.reduceLeDiff, h1, h2]
        exact finK_v ⟨by rw [gameOf, firstI_some hlt (by rw [gameIs, List.getElem?_eq_getElem hlt, Option.any_some, h1, h2]; rfl) hp], rfl⟩
  · simp -implicitDefEqProofs only [go_sem, ↓reduceIte, Nat.reduceEqDiff, Nat.reduceAdd, Nat.reduceLeDiff]
    have : i = l.length := by omega
    subst this
    exact finK_v ⟨by rw [gameOf, firstI_none hp], rfl⟩

def seasonAt (n : Int) (l : List Game) (i : Nat) : Bool := (l[i]?).all fun g => gameOk n g && decide (gameOf l g.home g.away = (i : Int))
def seasonOk (n : Int) (l : List Game) : Bool := decide (l.length ≤ 60) && (List.range l.length).all (seasonAt n l)

theorem specSeasonOk (n : Int) (l : List Game) (hl : l.length < 4611686018427387904) : AFunD Tryz.prog F.spec_SeasonOk [DV (vInt n), DV (vGames l)] (DV (.bool (seasonOk n l))) := by
  refine AFunD.intro k_spec_SeasonOk (by simp) ?pure ?_
  case pure => first | exact D.pure_v _ | exact D.pure_vs _
  unfold c_spec_SeasonOk
  simp only [argE, Nat.reduceAdd]
  simp only [vGames]
  simp -implicitDefEqProofs only [go_sem, ↓reduceIte, Nat.reduceEqDiff, Nat.reduceAdd, Nat.reduceLeDiff]
  refine condA_dec (fun h => ?_) (fun h => ?_)
  · simp -implicitDefEqProofs only [go_sem, ↓reduceIte, Nat.reduceEqDiff, Nat.reduceAdd, Nat.reduceLeDiff]
    exact finK_v ⟨by rw [seasonOk, decide_eq_false (by omega)]; rfl, rfl⟩
  have hlen : decide (l.length ≤ 60) = true := decide_eq_true (by omega)
  simp -implicitDefEqProofs only [go_sem, ↓reduceIte, Nat.reduceEqDiff, Nat.reduceAdd, Nat.reduceLeDiff]
  refine loop_st (S := Nat) (fun i => [(0, DV (vInt n)), (1, DV (vGames l)), (10, DV (vGames l)), (11, DV (vInt l.length)), (12, DV (vInt i))]) (fun _ => []) (fun i => l.length - i) (fun i => i ≤ l.length ∧ (List.range i).all (seasonAt n l) = true) 0 (Nat.zero_le _)
    ⟨rfl, rfl, rfl, rfl, rfl, trivial⟩ rfl ⟨Nat.zero_le _, rfl⟩ ?_
  rintro i ⟨hi, hp⟩
  simp -implicitDefEqProofs only [go_sem, ↓reduceIte, Nat.reduceEqDiff, Nat.reduceAdd, Nat.reduceLeDiff, vGames, vInt]
  refine condA_dec (fun h => ?_) (fun h => ?_)
  · have hlt : i < l.length := by omega
    have bad : seasonAt n l i = false → seasonOk n l = false := fun h => by rw [seasonOk, all_range_false hlt h]; simp
    simp -implicitDefEqProofs only [go_sem, ↓reduceIte, Nat.reduceEqDiff, Nat.reduceAdd, Nat.reduceLeDiff, List.getElem?_eq_getElem hlt]
    simp only [eGame]
    simp -implicitDefEqProofs only [go_sem, ↓reduceIte, Nat.reduceEqDiff, Nat.reduceAdd, Nat.reduceLeDiff]
    refine (specGameOk n l[i]).callp (.v _ (.vs _ .nil)) ?_
    cases h1 : gameOk n l[i]
    · simp -implicitDefEqProofs only [go_sem, ↓reduceIte, Nat.reduceEqDiff, Nat.reduceAdd, Nat.reduceLeDiff]
      exact finK_v ⟨by rw [bad (by rw [seasonAt, List.getElem?_eq_getElem hlt, Option.all_some, h1]; rfl)], rfl⟩
    simp -implicitDefEqProofs only [go_sem, ↓reduceIte, Nat.reduceEqDiff, Nat.reduceAdd, Nat.reduceLeDiff]
    refine (specGameOf l l[i].home l[i].away hl).callp (.v _ (.v _ (.v _ .nil))) ?_
    by_cases h2 : gameOf l l[i].home l[i].away = (i : Int)
    · simp -implicitDefEqProofs only [go_sem, ↓reduceIte, Nat.reduceEqDiff, Nat.reduceAdd, Nat.reduceLeDiff, h2, w64s (show i < 4611686018427387904 by omega)]
      exact next_drop (i + 1) _ (by omega) ⟨by omega, by rw [all_range_succ, hp, seasonAt, List.getElem?_eq_getElem hlt, Option.all_some, h1, decide_eq_true h2]; rfl⟩ WfM.nil (Nat.zero_le _) ⟨rfl, rfl, rfl, rfl, rfl, trivial⟩ ⟨trivial, trivial, trivial, trivial, trivial, trivial⟩ rfl
    · simp -implicitDefEqProofs only [go_sem, ↓reduceIte, Nat.reduceEqDiff, Nat.reduceAdd, Nat.reduceLeDiff, h2]
      exact finK_v ⟨by rw [bad (by rw [seasonAt, List.getElem?_eq_getElem hlt, Option.all_some, h1, decide_eq_false h2]; rfl)], rfl⟩
  · simp -implicitDefEqProofs only [go_sem, ↓reduceIte, Nat.reduceEqDiff, Nat.reduceAdd, Nat.reduceLeDiff]
    have : i = l.length := by omega
    subst this
    exact finK_v ⟨by rw [seasonOk, hlen, hp]; rfl, rfl⟩

end Go.Proofs.YtneiicadhjdbiaaGreat.Ab

namespace Go.Proofs.YtneiicadhjdbiaaGreat.Ab
open Go

theorem slsA_ints {e : Env} {K : D → Prop} {l : List Int} {x : Opd} (i : Nat) (hi : i ≤ l.length) (hx : ev e x = DV (vInt i)) (k : K (DV (vInts (l.take i)))) : slsA 1 (DV (.ro 1 (l.map fun x => [V.int .i64 x]))) e none (some x) K :=
  slsA_pre (f := fun x => [V.int .i64 x]) i hi hx k

def ladderAt (l : List Int) (i : Nat) : Bool := (l[i]?).all fun k => inB k 1 8 && !has (l.take i) k
def rulesOk (u : Rules) : Bool := inB u.win 0 10 && inB u.draw 0 u.win && inB u.loss 0 u.draw && inB u.ladder.length 1 8 && (List.range u.ladder.length).all (ladderAt u.ladder)

theorem specRulesOk (u : Rules) (hl : u.ladder.length < 4611686018427387904) : AFunD Tryz.prog F.spec_RulesOk [dRules u] (DV (.bool (rulesOk u))) := by
  refine AFunD.intro k_spec_RulesOk (by simp) ?pure ?_
  case pure => first | exact D.pure_v _ | exact D.pure_vs _
  unfold c_spec_RulesOk
  simp only [argE, Nat.reduceAdd]
  simp only [dRules, eRules]
  simp -implicitDefEqProofs only [go_sem, ↓reduceIte, Nat.reduceEqDiff, Nat.reduceAdd, Nat.reduceLeDiff]
  refine (l01In u.win 0 10).callp (.v _ (.v _ (.v _ .nil))) ?_
  cases h1 : inB u.win 0 10
  · simp -implicitDefEqProofs only [go_sem, ↓reduceIte, Nat.reduceEqDiff, Nat.reduceAdd, Nat.reduceLeDiff]
    exact finK_v ⟨by simp [rulesOk, h1], rfl⟩
  simp -implicitDefEqProofs only [go_sem, ↓reduceIte, Nat.reduceEqDiff, Nat.reduceAdd, Nat.reduceLeDiff]
  refine (l01In u.draw 0 u.win).callp (.v _ (.v _ (.v _ .nil))) ?_
  cases h2 : inB u.draw 0 u.win
  · simp -implicitDefEqProofs only [go_sem, ↓reduceIte, Nat.reduceEqDiff, Nat.reduceAdd, Nat.reduceLeDiff]
    exact finK_v ⟨by simp [rulesOk, h2], rfl⟩
  simp -implicitDefEqProofs only [go_sem, ↓reduceIte, Nat.reduceEqDiff, Nat.reduceAdd, Nat.reduceLeDiff]
  refine (l01In u.loss 0 u.draw).callp (.v _ (.v _ (.v _ .nil))) ?_
  cases h3 : inB u.loss 0 u.draw
  · simp -implicitDefEqProofs only [go_sem, ↓reduceIte, Nat.reduceEqDiff, Nat.reduceAdd, Nat.reduceLeDiff]
    exact finK_v ⟨by simp [rulesOk, h3], rfl⟩
  simp -implicitDefEqProofs only [go_sem, ↓reduceIte, Nat.reduceEqDiff, Nat.reduceAdd, Nat.reduceLeDiff, vInts]
  refine (l01In u.ladder.length 1 8).callp (.v _ (.v _ (.v _ .nil))) ?_
  cases h4 : inB u.ladder.length 1 8
  · simp -implicitDefEqProofs only [go_sem, ↓reduceIte, Nat.reduceEqDiff, Nat.reduceAdd, Nat.reduceLeDiff]
    exact finK_v ⟨by simp [rulesOk, h4], rfl⟩
  simp -implicitDefEqProofs only [go_sem, ↓reduceIte, Nat.reduceEqDiff, Nat.reduceAdd, Nat.reduceLeDiff, vInts]
  let l := u.ladder
  have hl : l.length < 4611686018427387904 := hl
  refine loop_st (S := Nat) (fun i => [(1, DC (.ptr 0 0)), (33, DV (vInts l)), (34, DV (vInt l.length)), (35, DV (vInt i))]) (fun _ => [.cells ((eRules u).map .v)]) (fun i => l.length - i) (fun i => i ≤ l.length ∧ (List.range i).all (ladderAt l) = true) 0 (Nat.zero_le _)
    ⟨rfl, rfl, rfl, rfl, trivial⟩ rfl ⟨Nat.zero_le _, rfl⟩ ?_
  rintro i ⟨hi, hp⟩
  simp only [eRules]
  simp -implicitDefEqProofs only [go_sem, ↓reduceIte, Nat.reduceEqDiff, Nat.reduceAdd, Nat.reduceLeDiff, vInts, vInt]
  refine condA_dec (fun h => ?_) (fun h => ?_)
  · have hlt : i < l.length := by omega
    have bad : ladderAt l i = false → rulesOk u = false := fun h => by rw [rulesOk, all_range_false hlt h]; simp
    simp -implicitDefEqProofs only [go_sem, ↓reduceIte, Nat.reduceEqDiff, Nat.reduceAdd, Nat.reduceLeDiff, List.getElem?_eq_getElem hlt]
    refine (l01In l[i] 1 8).callp (.v _ (.v _ (.v _ .nil))) ?_
    cases h5 : inB l[i] 1 8
    · simp -implicitDefEqProofs only [go_sem, ↓reduceIte, Nat.reduceEqDiff, Nat.reduceAdd, Nat.reduceLeDiff]
      exact finK_v ⟨by rw [bad (by rw [ladderAt, List.getElem?_eq_getElem hlt, Option.all_some, h5]; rfl)], rfl⟩
    simp -implicitDefEqProofs only [go_sem, ↓reduceIte, Nat.reduceEqDiff, Nat.reduceAdd, Nat.reduceLeDiff, vInts]
    refine slsA_ints (l := l) i (by omega) rfl ?_
    simp -implicitDefEqProofs only [go_sem, ↓reduceIte, Nat.reduceEqDiff, Nat.reduceAdd, Nat.reduceLeDiff]
    refine (l02Has (l.take i) l[i] (by simp; omega)).callp (.v _ (.v _ .nil)) ?_
    cases h6 : has (l.take i) l[i]
    · simp -implicitDefEqProofs only [go_sem, ↓reduceIte, Nat.reduceEqDiff, Nat.reduceAdd, Nat.reduceLeDiff, w64s (show i < 4611686018427387904 by omega)]
      exact next_of (i + 1) (by omega) ⟨by omega, by rw [all_range_succ, hp, ladderAt, List.getElem?_eq_getElem hlt, Option.all_some, h5, h6]; rfl⟩ (Nat.zero_le _) ⟨rfl, rfl, rfl, rfl, trivial⟩ rfl
    · simp -implicitDefEqProofs only [go_sem, ↓reduceIte, Nat.reduceEqDiff, Nat.reduceAdd, Nat.reduceLeDiff]
      exact finK_v ⟨by rw [bad (by rw [ladderAt, List.getElem?_eq_getElem hlt, Option.all_some, h5, h6]; rfl)], rfl⟩
  · simp -implicitDefEqProofs only [go_sem, ↓reduceIte, Nat.reduceEqDiff, Nat.reduceAdd, Nat.reduceLeDiff]
    have : i = l.length := by omega
    subst this
    exact finK_v ⟨by rw [rulesOk, h1, h2, h3, h4, hp]; rfl, rfl⟩

def penAt (l : List Int) (i : Nat) : Bool := (l[i]?).all fun x => inB x 0 1000
def pensOk (l : List Int) (n : Nat) : Bool := decide (l.length = n) && (List.range n).all (penAt l)
def bookOk (b : Book) : Bool := fieldOk b.field && rulesOk b.rules && seasonOk b.field.length b.games && pensOk b.fair b.field.length && pensOk b.taken b.field.length

theorem specBookOk (b : Book) (hb : Fits b) : AFunD Tryz.prog F.spec_BookOk [dBook b] (DV (.bool (bookOk b))) := by
  refine AFunD.intro k_spec_BookOk (by simp) ?pure ?_
  case pure => first | exact D.pure_v _ | exact D.pure_vs _
  unfold c_spec_BookOk
  simp only [argE, Nat.reduceAdd]
  simp only [dBook, eBook, eRules]
  simp -implicitDefEqProofs only [go_sem, ↓reduceIte, Nat.reduceEqDiff, Nat.reduceAdd, Nat.reduceLeDiff, vTeams]
  refine (specFieldOk b.field hb.field hb.names).callp (.v _ .nil) ?_
  cases h1 : fieldOk b.field
  · simp -implicitDefEqProofs only [go_sem, ↓reduceIte, Nat.reduceEqDiff, Nat.reduceAdd, Nat.reduceLeDiff]
    exact finK_v ⟨by simp [bookOk, h1], rfl⟩
  simp -implicitDefEqProofs only [go_sem, ↓reduceIte, Nat.reduceEqDiff, Nat.reduceAdd, Nat.reduceLeDiff]
  refine (specRulesOk b.rules hb.ladder).callp (.vs (eRules b.rules) .nil) ?_
  cases h2 : rulesOk b.rules
  · simp -implicitDefEqProofs only [go_sem, ↓reduceIte, Nat.reduceEqDiff, Nat.reduceAdd, Nat.reduceLeDiff]
    exact finK_v ⟨by simp [bookOk, h2], rfl⟩
  simp -implicitDefEqProofs only [go_sem, ↓reduceIte, Nat.reduceEqDiff, Nat.reduceAdd, Nat.reduceLeDiff]
  refine (specSeasonOk b.field.length b.games hb.games).callp (.v _ (.v _ .nil)) ?_
  cases h3 : seasonOk b.field.length b.games
  · simp -implicitDefEqProofs only [go_sem, ↓reduceIte, Nat.reduceEqDiff, Nat.reduceAdd, Nat.reduceLeDiff]
    exact finK_v ⟨by simp [bookOk, h3], rfl⟩
  simp -implicitDefEqProofs only [go_sem, ↓reduceIte, Nat.reduceEqDiff, Nat.reduceAdd, Nat.reduceLeDiff, vInts]
  by_cases h4 : b.fair.length = b.field.length
  rotate_left
  · have h4' : ¬ ((b.fair.length : Int) = (b.field.length : Int)) := by omega
    simp -implicitDefEqProofs only [go_sem, ↓reduceIte, Nat.reduceEqDiff, Nat.reduceAdd, Nat.reduceLeDiff, h4', vInts]
    exact finK_v ⟨by simp [bookOk, pensOk, h4], rfl⟩
  have h4' : ((b.fair.length : Int) = (b.field.length : Int)) := by omega
  by_cases h5 : b.taken.length = b.field.length
  rotate_left
  · have h5' : ¬ ((b.taken.length : Int) = (b.field.length : Int)) := by omega
    simp -implicitDefEqProofs only [go_sem, ↓reduceIte, Nat.reduceEqDiff, Nat.reduceAdd, Nat.reduceLeDiff, h4', h5', vInts]
    exact finK_v ⟨by simp [bookOk, pensOk, h5], rfl⟩
  have h5' : ((b.taken.length : Int) = (b.field.length : Int)) := by omega
  simp -implicitDefEqProofs only [go_sem, ↓reduceIte, Nat.reduceEqDiff, Nat.reduceAdd, Nat.reduceLeDiff, h4', h5', vInts, vTeams]
  let n := b.field.length
  refine loop_st (S := Nat) (fun i => [(1, DC (.ptr 0 0)), (41, DV (vInt n)), (42, DV (vInt i))]) (fun _ => [.cells ((eBook b).map .v)]) (fun i => n - i) (fun i => i ≤ n ∧ (List.range i).all (penAt b.fair) = true ∧ (List.range i).all (penAt b.taken) = true) 0 (Nat.zero_le _)
    ⟨rfl, rfl, rfl, trivial⟩ rfl ⟨Nat.zero_le _, rfl, rfl⟩ ?_
  rintro i ⟨hi, hp, hq⟩
  simp only [eBook, eRules]
  simp -implicitDefEqProofs only [go_sem, ↓reduceIte, Nat.reduceEqDiff, Nat.reduceAdd, Nat.reduceLeDiff, vInts, vInt]
  refine condA_dec (fun h => ?_) (fun h => ?_)
  · have hlt : i < n := by omega
    have hlf : i < b.fair.length := by omega
    have hlt' : i < b.taken.length := by omega
    simp -implicitDefEqProofs only [go_sem, ↓reduceIte, Nat.reduceEqDiff, Nat.reduceAdd, Nat.reduceLeDiff, List.getElem?_eq_getElem hlf]
    refine (l01In b.fair[i] 0 1000).callp (.v _ (.v _ (.v _ .nil))) ?_
    cases h6 : inB b.fair[i] 0 1000
    · simp -implicitDefEqProofs only [go_sem, ↓reduceIte, Nat.reduceEqDiff, Nat.reduceAdd, Nat.reduceLeDiff]
      exact finK_v ⟨by rw [bookOk, pensOk, all_range_false hlt (by rw [penAt, List.getElem?_eq_getElem hlf, Option.all_some, h6])]; simp, rfl⟩
    simp -implicitDefEqProofs only [go_sem, ↓reduceIte, Nat.reduceEqDiff, Nat.reduceAdd, Nat.reduceLeDiff, vInts, List.getElem?_eq_getElem hlt']
    refine (l01In b.taken[i] 0 1000).callp (.v _ (.v _ (.v _ .nil))) ?_
    cases h7 : inB b.taken[i] 0 1000
    · simp -implicitDefEqProofs only [go_sem, ↓reduceIte, Nat.reduceEqDiff, Nat.reduceAdd, Nat.reduceLeDiff]
      exact finK_v ⟨by rw [bookOk, pensOk, pensOk, all_range_false (f := penAt b.taken) hlt (by rw [penAt, List.getElem?_eq_getElem hlt', Option.all_some, h7])]; simp, rfl⟩
    simp -implicitDefEqProofs only [go_sem, ↓reduceIte, Nat.reduceEqDiff, Nat.reduceAdd, Nat.reduceLeDiff, w64s (show i < 4611686018427387904 by have := hb.field; omega)]
    exact next_of (i + 1) (by omega) ⟨by omega, by rw [all_range_succ, hp, penAt, List.getElem?_eq_getElem hlf, Option.all_some, h6]; rfl, by rw [all_range_succ, hq, penAt, List.getElem?_eq_getElem hlt', Option.all_some, h7]; rfl⟩ (Nat.zero_le _) ⟨rfl, rfl, rfl, trivial⟩ rfl
  · simp -implicitDefEqProofs only [go_sem, ↓reduceIte, Nat.reduceEqDiff, Nat.reduceAdd, Nat.reduceLeDiff]
    have hin : i = n := by omega
    rw [hin] at hp hq
    exact finK_v ⟨by rw [bookOk, pensOk, pensOk, h1, h2, h3, hp, hq, decide_eq_true h4, decide_eq_true h5]; rfl, rfl⟩

end Go.Proofs.YtneiicadhjdbiaaGreat.Ab

namespace Go.Proofs.YtneiicadhjdbiaaGreat.Ab
open Go

theorem set_same {m : List Blk} {i : Nat} {b : Blk} (h : m[i]? = some b) : m.set i b = m := by
  apply List.ext_getElem?
  intro j
  by_cases hj : i = j
  · subst hj; rw [List.getElem?_set_self (List.getElem?_eq_some_iff.1 h).1, h]
  · rw [List.getElem?_set_ne hj]

theorem setB_same : ∀ (ρ : List Nat) (m bs : List Blk), (∀ (i : Nat) (b : Blk), bs[i]? = some b → m[ρ.getD i 0]? = some b) → setB m ρ bs = m
  | [], m, bs, _ => by simp [setB]
  | i :: r, m, [], _ => by simp [setB]
  | i :: r, m, b :: s, h => by
    have h0 : m[i]? = some b := by simpa using h 0 b rfl
    rw [setB, set_same h0]
    exact setB_same r m s fun j b' hj => by simpa using h (j + 1) b' (by simpa using hj)

/-- A callee that only reads the blocks handed over. -/
theorem handKeep {P : Program} {m : List Blk} {K : D → List Blk → Prop} {f : Nat} {ds ds0 : List D} {mem0 : List Blk} {v : V} (ρ : List Nat) (h : AFun P f ds0 mem0 fun d m => d = DV v ∧ m = mem0) (hn : ρ.Nodup) (hlen : mem0.length = ρ.length)
    (hb : ∀ (i : Nat) (b' : Blk), mem0[i]? = some b' → (∃ ys : List V, b' = .cells (ys.map .v)) ∧ m[ρ.getD i 0]? = some b') (hv : VwMs m ρ false ds ds0) (k : K (DV v) m) : AFunG P false f ds m K := by
  refine AFunG.hand (br := false) ρ h hn hlen (fun i b' hi => ?_) hv (fun d m1 hd _ => ⟨fun h => (by cases h), ?_⟩)
  · obtain ⟨⟨ys, rfl⟩, h2⟩ := hb i b' hi
    exact ⟨_, h2, ltCs_vs ys, leCs_vs ys⟩
  · obtain ⟨rfl, rfl⟩ := hd
    have e1 : m1.map (renB (rnm ρ m.length)) = m1 := by
      conv => rhs; rw [← List.map_id m1]
      refine List.map_congr_left fun b hbm => ?_
      obtain ⟨i, hi⟩ := List.getElem?_of_mem hbm
      obtain ⟨⟨ys, rfl⟩, _⟩ := hb i b hi
      simp only [renB, renC_vs, id]
    rw [e1, setB_same ρ m m1 fun i b hi => (hb i b hi).2, List.drop_eq_nil_of_le (by omega)]
    simp only [List.map_nil, List.append_nil]; exact k

theorem indexFuncTeam {mem : List Blk} {g : Nat} {caps : List (Nat × Nat)} {p : Team → Bool} {l : List Team} (hl : l.length < 4611686018427387904) (hf : isFn Tryz.prog g = true)
    (hc : ∀ x ∈ l, AFun Tryz.prog g (dTeam x :: caps.map fun p => DC (.ptr p.1 p.2)) mem fun d m => d = DV (.bool (p x)) ∧ m = mem) :
    AFun Tryz.prog F.slices_IndexFunc_Team [DV (vTeams l), DC (.fn g caps)] mem fun d m => d = DV (vInt (firstI (fun i => (l[i]?).any p) l.length)) ∧ m = mem := by
  refine AFun.intro k_slices_IndexFunc_Team (by simp) ?_
  unfold c_slices_IndexFunc_Team
  simp only [argE, Nat.reduceAdd]
  simp only [vTeams]
  simp -implicitDefEqProofs only [go_sem, ↓reduceIte, Nat.reduceEqDiff, Nat.reduceAdd, Nat.reduceLeDiff]
  refine loop_st (S := Nat) (fun i => [(0, DV (vTeams l)), (1, DC (.fn g caps)), (7, DV (vInt l.length)), (8, DV (vInt i))]) (fun _ => mem) (fun i => l.length - i) (fun i => i ≤ l.length ∧ ((List.range i).any fun i => (l[i]?).any p) = false) 0 (Nat.le_refl _)
    ⟨rfl, rfl, rfl, rfl, trivial⟩ rfl ⟨Nat.zero_le _, rfl⟩ ?_
  rintro i ⟨hi, hp⟩
  simp -implicitDefEqProofs only [go_sem, ↓reduceIte, Nat.reduceEqDiff, Nat.reduceAdd, Nat.reduceLeDiff, vTeams, vInt]
  refine condA_dec (fun h => ?_) (fun h => ?_)
  · have hlt : i < l.length := by omega
    simp -implicitDefEqProofs only [go_sem, ↓reduceIte, Nat.reduceEqDiff, Nat.reduceAdd, Nat.reduceLeDiff, List.getElem?_eq_getElem hlt]
    refine ⟨hf, (AFunG.of (hc l[i] (List.getElem_mem hlt))).mono ?_⟩
    rintro _ _ ⟨rfl, rfl⟩
    cases h1 : p l[i]
    · simp -implicitDefEqProofs only [go_sem, ↓reduceIte, Nat.reduceEqDiff, Nat.reduceAdd, Nat.reduceLeDiff, w64s (show i < 4611686018427387904 by omega)]
      exact next_of (i + 1) (by omega) ⟨by omega, by rw [any_range_succ, hp, List.getElem?_eq_getElem hlt, Option.any_some, h1]; rfl⟩ (Nat.le_refl _) ⟨rfl, rfl, rfl, rfl, trivial⟩ rfl
    · simp -implicitDefEqProofs only [go_sem, ↓reduceIte, Nat.reduceEqDiff, Nat.reduceAdd, Nat.reduceLeDiff]
      exact finK_refl (Nat.le_refl _) ⟨by rw [firstI_some hlt (by rw [List.getElem?_eq_getElem hlt, Option.any_some, h1]) hp], rfl⟩
  · simp -implicitDefEqProofs only [go_sem, ↓reduceIte, Nat.reduceEqDiff, Nat.reduceAdd, Nat.reduceLeDiff]
    have : i = l.length := by omega
    subst this
    exact finK_refl (Nat.le_refl _) ⟨by rw [firstI_none hp], rfl⟩

theorem indexFuncGame {mem : List Blk} {g : Nat} {caps : List (Nat × Nat)} {p : Game → Bool} {l : List Game} (hl : l.length < 4611686018427387904) (hf : isFn Tryz.prog g = true)
    (hc : ∀ x ∈ l, AFun Tryz.prog g (dGame x :: caps.map fun p => DC (.ptr p.1 p.2)) mem fun d m => d = DV (.bool (p x)) ∧ m = mem) :
    AFun Tryz.prog F.slices_IndexFunc_Game [DV (vGames l), DC (.fn g caps)] mem fun d m => d = DV (vInt (firstI (fun i => (l[i]?).any p) l.length)) ∧ m = mem := by
  refine AFun.intro k_slices_IndexFunc_Game (by simp) ?_
  unfold c_slices_IndexFunc_Game
  simp only [argE, Nat.reduceAdd]
  simp only [vGames]
  simp -implicitDefEqProofs only [go_sem, ↓reduceIte, Nat.reduceEqDiff, Nat.reduceAdd, Nat.reduceLeDiff]
  refine loop_st (S := Nat) (fun i => [(0, DV (vGames l)), (1, DC (.fn g caps)), (7, DV (vInt l.length)), (8, DV (vInt i))]) (fun _ => mem) (fun i => l.length - i) (fun i => i ≤ l.length ∧ ((List.range i).any fun i => (l[i]?).any p) = false) 0 (Nat.le_refl _)
    ⟨rfl, rfl, rfl, rfl, trivial⟩ rfl ⟨Nat.zero_le _, rfl⟩ ?_
  rintro i ⟨hi, hp⟩
  simp -implicitDefEqProofs only [go_sem, ↓reduceIte, Nat.reduceEqDiff, Nat.reduceAdd, Nat.reduceLeDiff, vGames, vInt]
  refine condA_dec (fun h => ?_) (fun h => ?_)
  · have hlt : i < l.length := by omega
    simp -implicitDefEqProofs only [go_sem, ↓reduceIte, Nat.reduceEqDiff, Nat.reduceAdd, Nat.reduceLeDiff, List.getElem?_eq_getElem hlt]
    refine ⟨hf, (AFunG.of (hc l[i] (List.getElem_mem hlt))).mono ?_⟩
    rintro _ _ ⟨rfl, rfl⟩
    cases h1 : p l[i]
    · simp -implicitDefEqProofs only [go_sem, ↓reduceIte, Nat.reduceEqDiff, Nat.reduceAdd, Nat.reduceLeDiff, w64s (show i < 4611686018427387904 by omega)]
      exact next_of (i + 1) (by omega) ⟨by omega, by rw [any_range_succ, hp, List.getElem?_eq_getElem hlt, Option.any_some, h1]; rfl⟩ (Nat.le_refl _) ⟨rfl, rfl, rfl, rfl, trivial⟩ rfl
    · simp -implicitDefEqProofs only [go_sem, ↓reduceIte, Nat.reduceEqDiff, Nat.reduceAdd, Nat.reduceLeDiff]
      exact finK_refl (Nat.le_refl _) ⟨by rw [firstI_some hlt (by rw [List.getElem?_eq_getElem hlt, Option.any_some, h1]) hp], rfl⟩
  · simp -implicitDefEqProofs only [go_sem, ↓reduceIte, Nat.reduceEqDiff, Nat.reduceAdd, Nat.reduceLeDiff]
    have : i = l.length := by omega
    subst this
    exact finK_refl (Nat.le_refl _) ⟨by rw [firstI_none hp], rfl⟩

theorem indexFuncInt {mem : List Blk} {g : Nat} {caps : List (Nat × Nat)} {p : Int → Bool} {l : List Int} (hl : l.length < 4611686018427387904) (hf : isFn Tryz.prog g = true)
    (hc : ∀ x ∈ l, AFun Tryz.prog g (DV (vInt x) :: caps.map fun p => DC (.ptr p.1 p.2)) mem fun d m => d = DV (.bool (p x)) ∧ m = mem) :
    AFun Tryz.prog F.slices_IndexFunc_int [DV (vInts l), DC (.fn g caps)] mem fun d m => d = DV (vInt (firstI (fun i => (l[i]?).any p) l.length)) ∧ m = mem := by
  refine AFun.intro k_slices_IndexFunc_int (by simp) ?_
  unfold c_slices_IndexFunc_int
  simp only [argE, Nat.reduceAdd]
  simp only [vInts]
  simp -implicitDefEqProofs only [go_sem, ↓reduceIte, Nat.reduceEqDiff, Nat.reduceAdd, Nat.reduceLeDiff]
  refine loop_st (S := Nat) (fun i => [(0, DV (vInts l)), (1, DC (.fn g caps)), (7, DV (vInt l.length)), (8, DV (vInt i))]) (fun _ => mem) (fun i => l.length - i) (fun i => i ≤ l.length ∧ ((List.range i).any fun i => (l[i]?).any p) = false) 0 (Nat.le_refl _)
    ⟨rfl, rfl, rfl, rfl, trivial⟩ rfl ⟨Nat.zero_le _, rfl⟩ ?_
  rintro i ⟨hi, hp⟩
  simp -implicitDefEqProofs only [go_sem, ↓reduceIte, Nat.reduceEqDiff, Nat.reduceAdd, Nat.reduceLeDiff, vInts, vInt]
  refine condA_dec (fun h => ?_) (fun h => ?_)
  · have hlt : i < l.length := by omega
    simp -implicitDefEqProofs only [go_sem, ↓reduceIte, Nat.reduceEqDiff, Nat.reduceAdd, Nat.reduceLeDiff, List.getElem?_eq_getElem hlt]
    refine ⟨hf, (AFunG.of (hc l[i] (List.getElem_mem hlt))).mono ?_⟩
    rintro _ _ ⟨rfl, rfl⟩
    cases h1 : p l[i]
    · simp -implicitDefEqProofs only [go_sem, ↓reduceIte, Nat.reduceEqDiff, Nat.reduceAdd, Nat.reduceLeDiff, w64s (show i < 4611686018427387904 by omega)]
      exact next_of (i + 1) (by omega) ⟨by omega, by rw [any_range_succ, hp, List.getElem?_eq_getElem hlt, Option.any_some, h1]; rfl⟩ (Nat.le_refl _) ⟨rfl, rfl, rfl, rfl, trivial⟩ rfl
    · simp -implicitDefEqProofs only [go_sem, ↓reduceIte, Nat.reduceEqDiff, Nat.reduceAdd, Nat.reduceLeDiff]
      exact finK_refl (Nat.le_refl _) ⟨by rw [firstI_some hlt (by rw [List.getElem?_eq_getElem hlt, Option.any_some, h1]) hp], rfl⟩
  · simp -implicitDefEqProofs only [go_sem, ↓reduceIte, Nat.reduceEqDiff, Nat.reduceAdd, Nat.reduceLeDiff]
    have : i = l.length := by omega
    subst this
    exact finK_refl (Nat.le_refl _) ⟨by rw [firstI_none hp], rfl⟩

end Go.Proofs.YtneiicadhjdbiaaGreat.Ab

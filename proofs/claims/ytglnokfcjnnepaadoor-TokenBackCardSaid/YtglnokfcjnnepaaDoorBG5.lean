/- Functions of the program as functions of Lean's; printed by a program. -/
import Derived.Test.YtglnokfcjnnepaaDoorBG5b

/- All functions of the seat. Printed by pr.py. -/
import Derived.Test.YtpkpihcdbgckkaaSFa
